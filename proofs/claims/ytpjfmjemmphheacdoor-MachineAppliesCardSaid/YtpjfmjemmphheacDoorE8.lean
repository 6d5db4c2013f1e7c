/- MachineApplies: the executor: pieces of code, loops, functions. Conditions: none. -/
import Derived.Test.YtpjfmjemmphheacDoorE7
set_option linter.all false
set_option linter.unusedVariables false
set_option linter.unusedSimpArgs false
namespace Go.Hx
open Go Go.RowKit

/-! ### Code as a list -/
def flatC : Code → List Code
  | .seq a b => flatC a ++ flatC b
  | c => [c]

section
variable {P : Program}

def wpl (P : Program) : List Code → (Exit → Act → World → Prop) → Act → World → Prop
  | [], Q, a, w => Q .normal a w
  | c :: cs, Q, a, w => c.wp P (Exit.then (wpl P cs Q) Q) a w

theorem then_mono {N N' : Act → World → Prop} {Q Q' : Exit → Act → World → Prop} (hn : ∀ a w, N a w → N' a w) (hq : ∀ e a w, Q e a w → Q' e a w) : ∀ e a w, Exit.then N Q e a w → Exit.then N' Q' e a w := fun e a w h => by
  cases e with
  | normal => exact hn _ _ h
  | _ => exact hq _ _ _ h

theorem wpl_mono {Q Q' : Exit → Act → World → Prop} (hq : ∀ e a w, Q e a w → Q' e a w) : ∀ (cs : List Code) (a : Act) (w : World), wpl P cs Q a w → wpl P cs Q' a w
  | [], _, _, h => hq _ _ _ h
  | _ :: cs, _, _, h => wp_mono h (then_mono (wpl_mono hq cs) hq)

theorem wpl_append {Q : Exit → Act → World → Prop} (ds : List Code) : ∀ (cs : List Code) (a : Act) (w : World), wpl P cs (Exit.then (wpl P ds Q) Q) a w → wpl P (cs ++ ds) Q a w
  | [], _, _, h => h
  | _ :: cs, _, _, h => wp_mono h fun e a w he => by
      cases e with
      | normal => exact wpl_append ds cs a w he
      | _ => exact he

theorem wpl_append' {Q : Exit → Act → World → Prop} (ds : List Code) : ∀ (cs : List Code) (a : Act) (w : World), wpl P (cs ++ ds) Q a w → wpl P cs (Exit.then (wpl P ds Q) Q) a w
  | [], _, _, h => h
  | _ :: cs, _, _, h => wp_mono h fun e a w he => by
      cases e with
      | normal => exact wpl_append' ds cs a w he
      | _ => exact he

theorem wp_of_flat : ∀ (c : Code) (Q : Exit → Act → World → Prop) (a : Act) (w : World), wpl P (flatC c) Q a w → c.wp P Q a w := by
  intro c
  induction c with
  | seq x y ihx ihy =>
    intro Q a w h
    refine wp_seq (ihx _ a w ?_)
    exact wpl_mono (then_mono (fun a w h => ihy Q a w h) (fun _ _ _ h => h)) _ _ _ (wpl_append' _ _ _ _ h)
  | _ =>
    intro Q a w h
    refine wp_mono h fun e a w he => ?_
    cases e <;> exact he

/-! ### The executor on a list -/
def hlist (P : Program) (call : HCall) (lf : Nat) : List Code → St → HF → Option (HX × St × HF)
  | [], s, f => some (.normal, s, f)
  | c :: cs, s, f => match hcode P call lf c s f with
    | some (.normal, s', f') => hlist P call lf cs s' f'
    | r => r

theorem hlist_sub {call : HCall} (hc : CallOK P call) (lf : Nat) : ∀ cs, CodeSub (hlist P call lf cs) := by
  intro cs
  induction cs with
  | nil => intro s s' f f' x h; cases h; exact s.sub_refl
  | cons c cs ih =>
    intro s s' f f' x h
    simp only [hlist] at h
    split at h
    · rename_i h1; exact St.sub_trans (hcode_sub hc lf c _ _ _ _ _ h1) (ih _ _ _ _ _ h)
    · exact hcode_sub hc lf c _ _ _ _ _ h

section
variable {w0 : Base} {μ : Mu} {s : St} {f : HF} {a : Act} {w : World}

theorem hlist_sound (hg : NoG P) {call : HCall} (hc : CallOK P call) (lf : Nat) : ∀ (cs : List Code) (μ : Mu) (s s' : St) (w : World) (f f' : HF) (a : Act) (x : HX),
    R w0 μ s w → AR μ f a → hlist P call lf cs s f = some (x, s', f') → SOK s' → wpl P cs (Post w0 μ x s' f') a w := by
  intro cs
  induction cs with
  | nil =>
    intro μ s s' w f f' a x h ha hr _
    cases hr
    exact ⟨rfl, μ, Mu.le_refl _, h, ha⟩
  | cons c cs ih =>
    intro μ s s' w f f' a x h ha hr ok
    simp only [hlist] at hr
    split at hr
    · rename_i s1 f1 h1
      refine wp_mono (hcode_sound hg hc lf c w0 μ s s1 w f f1 a .normal h ha h1 (SOK.of_sub (hlist_sub hc lf cs _ _ _ _ _ hr) ok)) fun e a' w' ⟨he, μ', k1, k2, k3⟩ => ?_
      subst he
      exact wpl_mono (fun _ _ _ hq => Post.le k1 hq) _ _ _ (ih μ' s1 s' w' f1 f' a' x k2 k3 hr ok)
    · rename_i hne
      refine wp_mono (hcode_sound hg hc lf c w0 μ s s' w f f' a x h ha hr ok) fun e a' w' hq => ?_
      have he := hq.1
      cases x with
      | normal => exact absurd hr (hne s' f')
      | exit i => subst he; exact hq
      | ret => subst he; exact hq
end

/-! ### From moment to moment -/
/-- Whatever stands as s and f say, the pieces lead to one of the moments of Q; numbers below n0 keep their places. -/
def Ex (P : Program) (n0 : Nat) (cs : List Code) (s : St) (f : HF) (Q : HX → St → HF → Prop) : Prop :=
  ∀ (w0 : Base) (μ : Mu) (w : World) (a : Act), R w0 μ s w → AR μ f a → wpl P cs (fun e a' w' => ∃ x s' f', e = x.ex ∧ Q x s' f' ∧ ∃ ν, leN n0 μ ν ∧ R w0 ν s' w' ∧ AR ν f' a') a w

theorem Ex.nil {n0 : Nat} {s : St} {f : HF} {Q : HX → St → HF → Prop} (h : Q .normal s f) : Ex P n0 [] s f Q := fun _ μ _ _ hR hA => ⟨.normal, s, f, rfl, h, μ, leN.refl _ _, hR, hA⟩

theorem Ex.mono {n0 : Nat} {cs : List Code} {s : St} {f : HF} {Q Q' : HX → St → HF → Prop} (h : Ex P n0 cs s f Q) (hq : ∀ x s f, Q x s f → Q' x s f) : Ex P n0 cs s f Q' := fun w0 μ w a hR hA =>
  wpl_mono (fun _ _ _ ⟨x, s', f', e1, e2, e3⟩ => ⟨x, s', f', e1, hq _ _ _ e2, e3⟩) _ _ _ (h w0 μ w a hR hA)

/-- At the end of a piece: the others go on, or it is an end. -/
def goOn (P : Program) (n0 : Nat) (ds : List Code) (Q : HX → St → HF → Prop) : HX → St → HF → Prop
  | .normal, s, f => Ex P n0 ds s f Q
  | x, s, f => Q x s f

theorem Ex.append {n0 : Nat} {cs ds : List Code} {s : St} {f : HF} {Q Q' : HX → St → HF → Prop} (h : Ex P n0 cs s f Q') (hq : ∀ x s f, Q' x s f → goOn P n0 ds Q x s f) : Ex P n0 (cs ++ ds) s f Q := fun w0 μ w a hR hA => by
  refine wpl_append ds cs a w (wpl_mono (fun e a' w' ⟨x, s', f', e1, e2, ν, e3, e4, e5⟩ => ?_) _ _ _ (h w0 μ w a hR hA))
  subst e1
  have := hq x s' f' e2
  cases x with
  | normal => exact wpl_mono (fun e a w ⟨x, s', f', e1, e2, ν', e6, e7⟩ => ⟨x, s', f', e1, e2, ν', e3.trans e6, e7⟩) _ _ _ (this w0 ν w' a' e4 e5)
  | exit i => exact ⟨_, s', f', rfl, this, ν, e3, e4, e5⟩
  | ret => exact ⟨_, s', f', rfl, this, ν, e3, e4, e5⟩

/-- A run, and what is kept of its end. -/
def hrun (P : Program) (call : HCall) (lf : Nat) (cs : List Code) (s : St) (f : HF) (π : List Bool) (ω : List (List Value)) (C : Cut) : Option (HX × List (Nat × HObj) × List (Nat × Value) × List Prop) :=
  match hlist P call lf cs (s.ask π ω) f with
  | some (x, s1, f1) => match cut C s1 f1 with
    | some (os, sl, ps) => bif Nat.beq s1.ng s.ng && Nat.beq f1.n f.n then some (x, os, sl, s1.pc ++ ps) else none
    | none => none
  | none => none

theorem ask_R {w0 : Base} {μ : Mu} {s : St} {w : World} {π : List Bool} {ω : List (List Value)} (h : R w0 μ s w) : R w0 μ (s.ask π ω) w := h.same rfl rfl rfl

theorem Ex.run (hg : NoG P) {call : HCall} (hc : CallOK P call) {lf : Nat} {cs : List Code} {s : St} {f : HF} {π : List Bool} {ω : List (List Value)} {C : Cut} {x : HX} {os : List (Nat × HObj)} {sl : List (Nat × Value)} {ps : List Prop}
    (hr : hrun P call lf cs s f π ω C = some (x, os, sl, ps)) (hp : allP ps) : Ex P C.n0 cs s f (fun x' s' f' => x' = x ∧ s' = mkSt os C.next s.ng ∧ f' = mkF sl f.n) := by
  intro w0 μ w a hR hA
  unfold hrun at hr
  split at hr
  · rename_i x1 s1 f1 hl
    split at hr
    · rename_i os' sl' ps' hcut
      obtain ⟨hb, hr⟩ := bif_some hr
      cases hr
      simp only [Bool.and_eq_true, beq_iff] at hb
      obtain ⟨h1, h2⟩ := allP_append hp
      refine wpl_mono (fun e a' w' ⟨he, μ', k1, k2, k3⟩ => ?_) _ _ _ (hlist_sound hg hc lf cs μ _ s1 w f f1 a x (ask_R hR) hA hl h1)
      obtain ⟨ν, m1, m2, m3⟩ := cut_sound k2 k3 hcut h2
      exact ⟨x, _, _, he, ⟨rfl, by rw [hb.1], by rw [hb.2]⟩, ν, (k1.leN _).trans m1, m2, m3⟩
    · cases hr
  · cases hr

/-- The first k pieces, then the others (the numbers of slots and variables as they are written). -/
theorem Ex.stepN (hg : NoG P) {call : HCall} (hc : CallOK P call) {lf : Nat} (k : Nat) (n ng next : Nat) {n0 : Nat} {l : List Code} {s : St} {f : HF} {Q : HX → St → HF → Prop} {π : List Bool} {ω : List (List Value)} {C : Cut} {x : HX} {os : List (Nat × HObj)} {sl : List (Nat × Value)} {ps : List Prop}
    (hr : hrun P call lf (l.take k) s f π ω C = some (x, os, sl, ps)) (hn : (Nat.beq C.n0 n0 && Nat.beq C.next next && Nat.beq s.ng ng && Nat.beq f.n n) = true) (hp : allP ps) (h : goOn P n0 (l.drop k) Q x (mkSt os next ng) (mkF sl n)) : Ex P n0 l s f Q := by
  simp only [Bool.and_eq_true, beq_iff] at hn
  obtain ⟨⟨⟨rfl, rfl⟩, rfl⟩, rfl⟩ := hn
  rw [← List.take_append_drop k l]
  refine (Ex.run hg hc hr hp).append fun x' s' f' ⟨e1, e2, e3⟩ => ?_
  subst e1; subst e2; subst e3
  exact h

/-- The first k pieces, then the others. -/
theorem Ex.step (hg : NoG P) {call : HCall} (hc : CallOK P call) {lf : Nat} (k : Nat) {n0 : Nat} {l : List Code} {s : St} {f : HF} {Q : HX → St → HF → Prop} {π : List Bool} {ω : List (List Value)} {C : Cut} {x : HX} {os : List (Nat × HObj)} {sl : List (Nat × Value)} {ps : List Prop}
    (hr : hrun P call lf (l.take k) s f π ω C = some (x, os, sl, ps)) (hn : C.n0 = n0) (hp : allP ps) (h : goOn P n0 (l.drop k) Q x (mkSt os C.next s.ng) (mkF sl f.n)) : Ex P n0 l s f Q := by
  subst hn
  rw [← List.take_append_drop k l]
  refine (Ex.run hg hc hr hp).append fun x' s' f' ⟨e1, e2, e3⟩ => ?_
  subst e1; subst e2; subst e3
  exact h

/-- A test whose outcome is known. -/
theorem Ex.condT {n0 : Nat} {c : Operand} {x y : Code} {ds : List Code} {s : St} {f : HF} {Q : HX → St → HF → Prop} {b : Bool} (hev : f.ev s c = some (.bool b)) (hb : b = true) (h : Ex P n0 (flatC x ++ ds) s f Q) : Ex P n0 (.cond c x y :: ds) s f Q := by
  subst hb
  intro w0 μ w a hR hA
  show (Code.cond c x y).wp P _ a w
  have hv := ev_sound hR hA _ _ hev
  refine wp_cond_true (by generalize a.eval c = vc at hv ⊢; cases hv; rfl) (wp_of_flat x _ _ _ ?_)
  have := wpl_append' _ _ _ _ (h w0 μ w a hR hA)
  exact this
theorem Ex.condF {n0 : Nat} {c : Operand} {x y : Code} {ds : List Code} {s : St} {f : HF} {Q : HX → St → HF → Prop} {b : Bool} (hev : f.ev s c = some (.bool b)) (hb : b = false) (h : Ex P n0 (flatC y ++ ds) s f Q) : Ex P n0 (.cond c x y :: ds) s f Q := by
  subst hb
  intro w0 μ w a hR hA
  show (Code.cond c x y).wp P _ a w
  have hv := ev_sound hR hA _ _ hev
  refine wp_cond_false (by generalize a.eval c = vc at hv ⊢; cases hv; rfl) (wp_of_flat y _ _ _ ?_)
  have := wpl_append' _ _ _ _ (h w0 μ w a hR hA)
  exact this

/-- At the end of a round. -/
def rndQ (P : Program) (n0 id : Nat) (ds : List Code) (Q : HX → St → HF → Prop) (I : Nat → St → HF → Prop) (m : Nat) : HX → St → HF → Prop
  | .normal, s, f => ∃ m', m' < m ∧ I m' s f
  | .exit i, s, f => if i = id then Ex P n0 ds s f Q else Q (.exit i) s f
  | .ret, s, f => Q .ret s f

theorem rndQ.out {n0 id : Nat} {ds : List Code} {Q : HX → St → HF → Prop} {I : Nat → St → HF → Prop} {m : Nat} {s : St} {f : HF} (h : Ex P n0 ds s f Q) : rndQ P n0 id ds Q I m (.exit id) s f := by
  show (if id = id then _ else _)
  rw [if_pos (rfl : id = id)]
  exact h

theorem goOn.out {n0 id : Nat} {ds l : List Code} {Q : HX → St → HF → Prop} {I : Nat → St → HF → Prop} {m : Nat} {s : St} {f : HF} (h : Ex P n0 ds s f Q) : goOn P n0 l (rndQ P n0 id ds Q I m) (.exit id) s f := rndQ.out (I := I) (m := m) h

/-- A loop in its block, and what follows. -/
theorem Ex.loop {n0 : Nat} {id : Nat} {c : Code} {ds : List Code} {Q : HX → St → HF → Prop} (I : Nat → St → HF → Prop)
    (step : ∀ m s f, I m s f → Ex P n0 (flatC c) s f (rndQ P n0 id ds Q I m)) {m : Nat} {s : St} {f : HF} (h0 : I m s f) : Ex P n0 (.block id (.loop c) :: ds) s f Q := by
  intro w0 μ w a hR hA
  show (Code.block id (.loop c)).wp P _ a w
  refine wp_block ?_
  have key : ∀ (N m : Nat) (s : St) (f : HF) (μ' : Mu) (w : World) (a : Act), m < N → I m s f → leN n0 μ μ' → R w0 μ' s w → AR μ' f a →
      Code.rounds P c (fun e => Exit.inBlock id (Exit.then (wpl P ds fun e a' w' => ∃ x s' f', e = x.ex ∧ Q x s' f' ∧ ∃ ν, leN n0 μ ν ∧ R w0 ν s' w' ∧ AR ν f' a') fun e a' w' => ∃ x s' f', e = x.ex ∧ Q x s' f' ∧ ∃ ν, leN n0 μ ν ∧ R w0 ν s' w' ∧ AR ν f' a') e) N a w := by
    intro N
    induction N with
    | zero => intro m s f μ' w a hm; omega
    | succ N ih =>
      intro m s f μ' w a hm hI hle hR hA
      rw [rounds_succ]
      refine wp_mono (wp_of_flat c _ _ _ (step m s f hI w0 μ' w a hR hA)) fun e a' w' ⟨x, s', f', e1, e2, ν, e3, e4, e5⟩ => ?_
      subst e1
      cases x with
      | normal =>
        obtain ⟨m', h1, h2⟩ := e2
        exact ih m' s' f' ν w' a' (by omega) h2 (hle.trans e3) e4 e5
      | exit i =>
        have e2 : if i = id then Ex P n0 ds s' f' Q else Q (.exit i) s' f' := e2
        show Exit.inBlock id _ (.exit i) a' w'
        simp only [Exit.inBlock]
        by_cases hi : i = id
        · rw [if_pos hi] at e2 ⊢
          exact wpl_mono (fun e a w ⟨x, s', f', e1, e2, ν', e6, e7⟩ => ⟨x, s', f', e1, e2, ν', (hle.trans e3).trans e6, e7⟩) _ _ _ (e2 w0 ν w' a' e4 e5)
        · rw [if_neg hi] at e2 ⊢
          exact ⟨.exit i, s', f', rfl, e2, ν, hle.trans e3, e4, e5⟩
      | ret => exact ⟨.ret, s', f', rfl, e2, ν, hle.trans e3, e4, e5⟩
  exact wp_loop_rounds (m + 1) (key (m + 1) m s f μ w a (by omega) h0 (leN.refl _ _) hR hA)

/-! ### Whole functions -/
/-- Whatever stands as s says, the call leads to one of the results of Q. -/
def FnEx (P : Program) (g : FuncId) (args : List Value) (s : St) (Q : Value → St → Prop) : Prop :=
  ∀ (w0 : Base) (μ : Mu) (w : World) (args' : List Value), R w0 μ s w → VRs μ args args' → Calls P g ⟨args'⟩ w fun e w' => ∃ v s' v' ν, Q v s' ∧ e = .returned v' ∧ μ.le ν ∧ R w0 ν s' w' ∧ VR ν v v'

/-- What a function hands back at a moment. -/
def FinQ (P : Program) (fn : Func) (n0 : Nat) (Q : Value → St → Prop) (x : HX) (s : St) (f : HF) : Prop :=
  (x = .normal ∨ x = .ret) ∧ ∀ (w0 : Base) (μ : Mu) (w : World) (a : Act), R w0 μ s w → AR μ f a → a.defers = [] ∧ ∃ v s' v' ν, Q v s' ∧ (results fn a.tmps).run P w = .ok v' w ∧ leN n0 μ ν ∧ R w0 ν s' w ∧ VR ν v v'

def hfin (P : Program) (fn : Func) (s : St) (f : HF) (ω : List (List Value)) (C : Cut) : Option (Value × List (Nat × HObj) × List Prop) :=
  bif C.okB s && f.ds.isEmpty then
    match hRes P f fn.results.toList (s.ask [] ω) with
    | some (r, s1) => match iceAll s1 C.ices with
      | some (s2, p1) => match cutObjs C.ρ s2 C.objs, renV C.ρ 6 (hTuple r) with
        | some (os, p2), some (v, p3) => some (v, os, s1.pc ++ (p1 ++ p2 ++ p3))
        | _, _ => none
      | none => none
    | none => none
  else none

theorem FinQ.mk' {fn : Func} {s : St} {f : HF} {ω : List (List Value)} {C : Cut} {v : Value} {os : List (Nat × HObj)} {ps : List Prop} {n0 : Nat} {Q : Value → St → Prop} {x : HX} (hx : x = .normal ∨ x = .ret)
    (hr : hfin P fn s f ω C = some (v, os, ps)) (hn : C.n0 = n0) (hp : allP ps) (hq : Q v (mkSt os C.next s.ng)) : FinQ P fn n0 Q x s f := by
  subst hn
  refine ⟨hx, fun w0 μ w a hR hA => ?_⟩
  unfold hfin at hr
  obtain ⟨hb, hr⟩ := bif_some hr
  simp only [Bool.and_eq_true] at hb
  split at hr
  · rename_i r s1 hres
    split at hr
    · rename_i s2 p1 hi
      split at hr
      · rename_i os' p2 v' p3 ho hv
        cases hr
        obtain ⟨h1, h4⟩ := allP_append hp
        obtain ⟨h2, h3⟩ := allP_append h4
        obtain ⟨h2, h5⟩ := allP_append h2
        have hlike := hRes_like _ _ _ _ hres
        obtain ⟨u, k1, k2⟩ := results_sound (ask_R hR) hA hres h1
        have hR1 : R w0 μ s1 w := (ask_R hR).like hlike
        have hok : C.okB s1 = true := by
          have := hb.1
          unfold Cut.okB at this ⊢
          rw [hlike.ng]
          exact this
        obtain ⟨ν1, m1, m2, m3, m4, m5, m6⟩ := cut_ren hok hR1 hi h2
        have hcut := cut_R hok hR1 m2 m3 m4 m5 ho h5
        rw [hlike.ng] at hcut
        refine ⟨?_, v, _, u, _, hq, k1, m6, hcut, ?_⟩
        · have he : f.ds = [] := by simpa using hb.2
          have := hA.ds
          rw [he] at this
          generalize a.defers = l at this ⊢
          cases this
          rfl
        · exact renV_sound m4 (fun _ _ h => h) _ _ _ _ _ hv h3 (k2.mono m1)
      · cases hr
    · cases hr
  · cases hr

theorem FnEx.body {g : FuncId} {fn : Func} {c : Code} {args : List Value} {s : St} {t : Tr Value} {Q : Value → St → Prop} (hf : P.funcs[g]? = some fn) (hb : fn.body = some c) (ht : hArgs 0 args .lf = some t)
    (h : Ex P s.next (flatC c) s ⟨t, args.length + (fn.ntmps - args.length), [], undef⟩ (FinQ P fn s.next Q)) : FnEx P g args s Q := by
  intro w0 μ w args' hR hV
  refine calls_of_wp_defers hf hb (wp_of_flat c _ _ _ (wpl_mono (fun e a w ⟨x, s', f', e1, e2, ν, e3, e4, e5⟩ => ?_) _ _ _ (h w0 μ w _ hR (enter_ar hV ht fn.ntmps))))
  obtain ⟨hx, hq⟩ := e2
  obtain ⟨hd, v, s'', v', ν', k1, k2, k3, k4, k5⟩ := hq w0 ν w a e4 e5
  have hle : μ.le ν' := (e3.trans k3).le hR.fresh
  subst e1
  rcases hx with rfl | rfl <;> (show Leaves P fn a.tmps _ a.defers .returning w; rw [hd]; exact ⟨v', k2, v, s'', v', ν', k1, rfl, hle, k4, k5⟩)

/-- The frame of a call. -/
def entF (args : List Value) (n : Nat) : HF := match hArgs 0 args .lf with
  | some t => ⟨t, args.length + (n - args.length), [], undef⟩
  | none => ⟨.lf, 0, [], undef⟩
theorem FnEx.enter {g : FuncId} {fn : Func} {c : Code} {args : List Value} {s : St} {Q : Value → St → Prop} {n0 : Nat} (hf : P.funcs[g]? = some fn) (hb : fn.body = some c) (ht : (hArgs 0 args .lf).isSome = true) (hn : s.next = n0)
    (h : Ex P n0 (flatC c) s (entF args fn.ntmps) (FinQ P fn n0 Q)) : FnEx P g args s Q := by
  subst hn
  obtain ⟨t, ht⟩ := Option.isSome_iff_exists.1 ht
  unfold entF at h
  rw [ht] at h
  exact FnEx.body hf hb ht h

/-- A call whose run is known whole. -/
theorem FnEx.of_call {call : HCall} (hc : CallOK P call) {g : FuncId} {args : List Value} {s s' : St} {v : Value} {π : List Bool} {ω : List (List Value)} (h : call g args (s.ask π ω) = some (v, s')) (ok : SOK s') : FnEx P g args s (fun u t => u = v ∧ t = s') := fun w0 μ w args' hR hV =>
  ((hc _ _ _ _ _ h).2 ok w0 μ w args' (ask_R hR) hV).mono fun e w' ⟨v', ν, e1, e2, e3, e4⟩ => ⟨v, s', v', ν, ⟨rfl, rfl⟩, e1, e2, e3, e4⟩

theorem FnEx.mono {g : FuncId} {args : List Value} {s : St} {Q Q' : Value → St → Prop} (h : FnEx P g args s Q) (hq : ∀ v s, Q v s → Q' v s) : FnEx P g args s Q' := fun w0 μ w args' hR hV =>
  (h w0 μ w args' hR hV).mono fun _ _ ⟨v, s', v', ν, e1, e2⟩ => ⟨v, s', v', ν, hq _ _ e1, e2⟩
end
end Go.Hx

namespace Go.Hx
open Go Go.RowKit

/-- No object is named in it. -/
def idq : Nat → Value → Bool
  | 0, v => idf 0 v
  | d + 1, .agg cs => cs.toList.all (idq d)
  | d + 1, .tuple cs => cs.toList.all (idq d)
  | _ + 1, .func _ ⟨[]⟩ ⟨[]⟩ => true
  | _ + 1, v => idf 0 v

section
variable {P : Program} {w0 : Base} {μ ν : Mu} {s : St} {w : World}

theorem idq_vr (hfz : ∀ b O, μ.fz b = some O → ν.fz b = some O) : ∀ (d : Nat) (v x : Value), idq d v = true → VR μ v x → VR ν v x := by
  have leaf : ∀ (v x : Value), idf 0 v = true → VR μ v x → VR ν v x := fun v x h k => (FR.mono hfz (idf_fr h k)).vr
  intro d
  induction d with
  | zero => exact leaf
  | succ d ih =>
    have hs : ∀ (l xs : List Value), l.all (idq d) = true → VRs μ l xs → VRs ν l xs := by
      intro l
      induction l with
      | nil => intro xs _ h; cases h; exact .nil
      | cons a l ihl =>
        intro xs hf h
        simp only [List.all_cons, Bool.and_eq_true] at hf
        cases h with
        | cons h t => exact .cons (ih _ _ hf.1 h) (ihl _ hf.2 t)
    intro v x hi hv
    cases v with
    | agg cs =>
      cases hv with
      | agg h => exact .agg (hs _ _ hi h)
    | tuple cs =>
      cases hv with
      | tuple h => exact .tuple (hs _ _ hi h)
    | func fn f c =>
      obtain ⟨f⟩ := f
      obtain ⟨c⟩ := c
      cases f with
      | nil => cases c with
        | nil =>
          cases hv with
          | func a b => cases a; cases b; exact .func .nil .nil
        | cons x l => exact leaf _ _ hi hv
      | cons x l => exact leaf _ _ hi hv
    | _ => exact leaf _ _ hi hv
theorem idqs_vr (hfz : ∀ b O, μ.fz b = some O → ν.fz b = some O) {d : Nat} {l xs : List Value} (h : l.all (idq d) = true) (k : VRs μ l xs) : VRs ν l xs := by
  induction l generalizing xs with
  | nil => cases k; exact .nil
  | cons a l ih =>
    simp only [List.all_cons, Bool.and_eq_true] at h
    cases k with
    | cons a b => exact .cons (idq_vr hfz d _ _ h.1 a) (ih h.2 b)

/-- All that stands is held fast; what may be frozen is what is frozen, and what is new. -/
def Base.only (w : World) (fz : Nat → Option Obj) : Base where
  ok := fun w' => Below w.heap.size w w'
  wr := fun g => w.heap.size ≤ g
  lk := fun _ _ => False
  fok := fun g => (∃ O, fz g = some O) ∨ w.heap.size ≤ g
  wfok := fun _ h => .inr h
  garbage := fun a b h k => h.trans (k.mono h.size)
  upd := fun a b g h hg k => ⟨k.os.trans h.os, k.tape.trans h.tape, k.output.trans h.output, Nat.le_trans h.size (Nat.le_of_eq k.size.symm), fun i hi => (k.block i (by omega)).trans (h.block i hi)⟩
  fresh := fun a g h hg => Nat.le_trans h.size hg
  lapart := fun _ _ h => h.elim
  lold := fun _ _ _ _ h => h.elim
  lkok := fun _ _ _ _ _ _ h => h.elim

def St0 : St := mkSt [] 0 0
theorem only_R (h : R w0 μ s w) : R (Base.only w μ.fz) ⟨fun _ => none, μ.fz⟩ St0 w where
  below := Below.refl _ _
  fresh := fun _ _ => rfl
  obj := fun i o hi _ => by rw [show St0.h = .lf from rfl, Tr.get_lf] at hi; cases hi
  dis := fun i j o o' p q _ hi => by rw [show St0.h = .lf from rfl, Tr.get_lf] at hi; cases hi
  fz := h.fz
  fzd := fun b O i o p _ hi => by rw [show St0.h = .lf from rfl, Tr.get_lf] at hi; cases hi
  fzo := fun b O hb => .inl ⟨O, hb⟩
  gl := fun g hg => by cases hg

/-- What stood stands, and more is frozen. -/
theorem back_R (h : R w0 μ s w) {s' : St} {w' : World} (h' : R (Base.only w μ.fz) ν s' w') (hfz : ∀ b O, μ.fz b = some O → ν.fz b = some O) : μ.le ⟨μ.pl, ν.fz⟩ ∧ R w0 ⟨μ.pl, ν.fz⟩ s w' := by
  have hb : Below w.heap.size w w' := h'.below
  have hle : μ.le ⟨μ.pl, ν.fz⟩ := ⟨fun i p hp => ⟨p, hp, p.sim_refl⟩, hfz⟩
  have hg := h.garbage hb
  refine ⟨hle, hg.below, hg.fresh, fun i o hi hd => ?_, hg.dis, h'.fz, fun b O i o p hbz hi hp ho => ?_, fun b O hbz => ?_, hg.gl⟩
  · obtain ⟨p, k1, k2, k3⟩ := hg.obj i o hi hd
    exact ⟨p, k1, k2.mono hle, k3⟩
  · have hlt := h.own_lt hi hp ho
    rcases h'.fzo b O hbz with ⟨O', hO⟩ | hge
    · exact h.fzd b O' i o p hO hi hp ho
    · have : w.heap.size ≤ b := hge
      omega
  · rcases h'.fzo b O hbz with ⟨O', hO⟩ | hge
    · exact h.fzo b O' hO
    · exact w0.wfok b (w0.fresh w b h.below hge)

/-- A function that looks at frozen memory alone, wherever it is called. -/
theorem FnEx.frame {g : FuncId} {args : List Value} {v : Value} {d d' : Nat} (h : FnEx P g args St0 (fun u _ => u = v)) (ha : args.all (idq d) = true) (hv : idq d' v = true) (s : St) : FnEx P g args s (fun u t => u = v ∧ t = s) := by
  intro w0 μ w args' hR hV
  refine (h (Base.only w μ.fz) _ w args' (only_R hR) (idqs_vr (μ := μ) (ν := ⟨fun _ => none, μ.fz⟩) (fun _ _ h => h) ha hV)).mono fun e w' ⟨u, s', v', ν, k1, k2, k3, k4, k5⟩ => ?_
  subst k1
  obtain ⟨m1, m2⟩ := back_R hR k4 k3.fz
  exact ⟨u, s, v', _, ⟨rfl, rfl⟩, k2, m1, m2, idq_vr (μ := ν) (ν := ⟨μ.pl, ν.fz⟩) (fun _ _ h => h) d' _ _ hv k5⟩

/-! ### Answers to calls -/
abbrev Rel := List Value → Value → Prop
def specK (l : List (FuncId × Rel)) : HCall := fun g args s => match lookN l g with
  | some rel => bif args.all (idq 3) then match popO s with
      | some ([v], s1) => bif idq 3 v then (needP (rel args v) s1).map fun s2 => (v, s2) else none
      | _ => none
    else none
  | none => none
def SpecOK (P : Program) (l : List (FuncId × Rel)) : Prop := ∀ g rel, (g, rel) ∈ l → ∀ args v, rel args v → args.all (idq 3) = true → idq 3 v = true → FnEx P g args St0 (fun u _ => u = v)

theorem specK_ok {l : List (FuncId × Rel)} (h : SpecOK P l) : CallOK P (specK l) := by
  intro s s' g args v hc
  unfold specK at hc
  split at hc
  · rename_i rel hrel
    obtain ⟨ha, hc⟩ := bif_some hc
    split at hc
    · rename_i v1 s1 hp
      obtain ⟨hv, hc⟩ := bif_some hc
      simp only [Option.map_eq_some_iff, Prod.mk.injEq] at hc
      obtain ⟨s2, hn, rfl, rfl⟩ := hc
      obtain ⟨k1, k2⟩ := needP_like hn
      have hl := (popO_like hp).trans k1
      refine ⟨hl.sub, fun ok w0 μ w args' hR hV => ?_⟩
      refine ((h g rel (lookN_mem hrel) args v1 (k2 ok) ha hv).frame ha hv s w0 μ w args' hR hV).mono fun e w' ⟨u, t, v', ν, k3, k4, k5, k6, k7⟩ => ?_
      obtain ⟨rfl, rfl⟩ := k3
      exact ⟨v', ν, k4, k5, k6.like hl, k7⟩
    · cases hc
  · cases hc

def orK (a b : HCall) : HCall := fun g args s => match a g args s with
  | some r => some r
  | none => b g args s
theorem orK_ok {a b : HCall} (h : CallOK P a) (k : CallOK P b) : CallOK P (orK a b) := by
  intro s s' g args v hc
  unfold orK at hc
  split at hc
  · rename_i r hr; cases hc; exact h _ _ _ _ _ hr
  · exact k _ _ _ _ _ hc
end

/-- No function with a body bears the name that the model looks for, as a Bool. -/
def noG (P : Program) : Bool := P.funcs.toList.all fun fn => !fn.body.isSome || !(fn.name == "runtime.NumGoroutine")
theorem noG_ok {P : Program} (h : noG P = true) : NoG P := by
  intro g fn hf hb
  unfold noG at h
  rw [List.all_eq_true] at h
  have := h fn (by
    have := Array.mem_of_getElem? hf
    simpa using this)
  rw [hb] at this
  simpa using this
end Go.Hx

namespace Go.Hx
open Go Go.RowKit

section
variable {P : Program} {w0 : Base} {μ : Mu} {s : St} {w : World}

/-! ### Calls at one state -/
abbrev SpecS := FuncId × List Value × St × Value × St
def specS (l : List SpecS) : HCall := fun g args s => match lookN l g with
  | some (a0, s0, v, s1) => (needP (args = a0 ∧ s.h = s0.h ∧ s.next = s0.next ∧ s.ng = s0.ng) s).map fun s' => (v, { s' with h := s1.h, next := s1.next, ng := s1.ng })
  | none => none
theorem specS_ok {l : List SpecS} (h : ∀ g a0 s0 v s1, (g, a0, s0, v, s1) ∈ l → FnEx P g a0 s0 (fun u t => u = v ∧ t = s1)) : CallOK P (specS l) := by
  intro s s' g args v hc
  unfold specS at hc
  split at hc
  · rename_i a0 s0 v0 s1 hl
    simp only [Option.map_eq_some_iff, Prod.mk.injEq] at hc
    obtain ⟨s2, hn, rfl, rfl⟩ := hc
    obtain ⟨k1, k2⟩ := needP_like hn
    refine ⟨k1.sub, fun ok w0 μ w args' hR hV => ?_⟩
    obtain ⟨e1, e2, e3, e4⟩ := k2 (fun p hp => ok p hp)
    subst e1
    refine (h g args s0 v0 s1 (lookN_mem hl) w0 μ w args' (hR.same e2.symm e3.symm e4.symm) hV).mono fun e w' ⟨u, t, v', ν, k3, k4, k5, k6, k7⟩ => ?_
    obtain ⟨rfl, rfl⟩ := k3
    exact ⟨v', ν, k4, k5, k6.same rfl rfl rfl, k7⟩
  · cases hc

/-! ### Another view -/
/-- Where the one holds, the other holds, under names that say as much. -/
def Turn (s s2 : St) : Prop := ∀ (w0 : Base) (μ : Mu) (w : World), R w0 μ s w → ∃ ν, μ.le ν ∧ R w0 ν s2 w
theorem Ex.turn {n0 : Nat} {cs : List Code} {s s2 : St} {f : HF} {Q : HX → St → HF → Prop} (ht : Turn s s2) (h : Ex P n0 cs s2 f Q) : Ex P n0 cs s f Q := fun w0 μ w a hR hA => by
  obtain ⟨ν, k1, k2⟩ := ht w0 μ w hR
  exact wpl_mono (fun e a' w' ⟨x, s', f', e1, e2, ν', e3, e4⟩ => ⟨x, s', f', e1, e2, ν', (k1.leN n0).trans e3, e4⟩) _ _ _ (h w0 ν w a k2 (hA.mono k1))

/-- One object is said in another way; blocks of its own may be frozen for good. -/
theorem R.recast (h : R w0 μ s w) {i : Nat} {o x : HObj} {p p' : Place} {t : Tr HObj} {fz' : Nat → Option Obj} {d : Nat} (hi : s.h.get i = some o) (hd : o ≠ .dead) (hp : μ i = some p) (hs : p.sim p') (ht : Tr.set d s.h i x = some t)
    (hown : ∀ g, own x p' g → own o p g) (hfz : ∀ b O, μ.fz b = some O → fz' b = some O) (hnew : ∀ b O, fz' b = some O → μ.fz b = some O ∨ (w.heap[b]? = some O ∧ own o p b ∧ ¬ own x p' b))
    (hx : Hl w0 ⟨(μ.put i p').pl, fz'⟩ i x p' w) : μ.le ⟨(μ.put i p').pl, fz'⟩ ∧ R w0 ⟨(μ.put i p').pl, fz'⟩ { s with h := t } w := by
  have hget := Tr.get_set d s.h t i x ht
  have hle : μ.le ⟨(μ.put i p').pl, fz'⟩ := ⟨(Mu.put_sim hp hs).pl, hfz⟩
  obtain ⟨p1, hp1, _, hwr⟩ := h.obj i o hi hd
  rw [hp] at hp1; cases hp1
  have same : ∀ j, j ≠ i → (⟨(μ.put i p').pl, fz'⟩ : Mu) j = μ j := fun j hj => Mu.put_other hj
  have ati : (⟨(μ.put i p').pl, fz'⟩ : Mu) i = some p' := Mu.put_same _ _ _
  refine ⟨hle, h.below, fun j hj => ?_, fun j y hj hy => ?_, fun a b y z pa pb hab ha hb hpa hpb g hga hgb => ?_, fun b O hb => ?_, fun b O j y r hb hj hr hg => ?_, fun b O hb => ?_, fun g hg => ?_⟩
  · by_cases hji : j = i
    · subst hji; exact absurd (h.fresh j hj) (by rw [hp]; simp)
    · rw [same j hji]; exact h.fresh j hj
  · by_cases hji : j = i
    · subst hji
      have hj : t.get j = some y := hj
      rw [hget, if_pos rfl] at hj
      cases hj
      exact ⟨p', ati, hx, fun g hg => hwr g (hown g hg)⟩
    · have hj : t.get j = some y := hj
      rw [hget, if_neg hji] at hj
      obtain ⟨r, n1, n2, n3⟩ := h.obj j y hj hy
      exact ⟨r, by rw [same j hji]; exact n1, n2.mono hle, n3⟩
  · have key : ∀ j y r, t.get j = some y → (⟨(μ.put i p').pl, fz'⟩ : Mu) j = some r → ∀ g, own y r g → ∃ y0 r0, s.h.get j = some y0 ∧ μ j = some r0 ∧ own y0 r0 g := by
      intro j y r hj hr g hg
      by_cases hji : j = i
      · subst hji
        rw [hget, if_pos rfl] at hj; cases hj
        rw [ati] at hr; cases hr
        exact ⟨o, p, hi, hp, hown g hg⟩
      · rw [hget, if_neg hji] at hj
        rw [same j hji] at hr
        exact ⟨y, r, hj, hr, hg⟩
    obtain ⟨y0, r0, m1, m2, m3⟩ := key a y pa ha hpa g hga
    obtain ⟨z0, q0, n1, n2, n3⟩ := key b z pb hb hpb g hgb
    exact h.dis a b y0 z0 r0 q0 hab m1 n1 m2 n2 g m3 n3
  · rcases hnew b O hb with hb | ⟨hb, _⟩
    · exact h.fz b O hb
    · exact hb
  · have hj : t.get j = some y := hj
    by_cases hji : j = i
    · subst hji
      rw [hget, if_pos rfl] at hj; cases hj
      rw [ati] at hr; cases hr
      rcases hnew b O hb with hb | ⟨_, _, hb⟩
      · exact h.fzd b O j o p hb hi hp (hown b hg)
      · exact hb hg
    · rw [hget, if_neg hji] at hj
      rw [same j hji] at hr
      rcases hnew b O hb with hb | ⟨_, hb, _⟩
      · exact h.fzd b O j y r hb hj hr hg
      · exact h.dis j i y o r p hji hj hi hr hp b hg hb
  · rcases hnew b O hb with hb | ⟨_, hb, _⟩
    · exact h.fzo b O hb
    · exact w0.wfok b (hwr b hb)
  · obtain ⟨q, q1, q2, q3⟩ := h.gl g hg
    by_cases hgi : g = i
    · subst hgi
      rw [hp] at q1; cases q1
      exact ⟨p', ati, by rw [hs.blk, q2], by rw [hs.base, q3]⟩
    · exact ⟨q, by rw [same g hgi]; exact q1, q2, q3⟩

theorem Turn.of_set {s s2 : St} {t : Tr HObj} (h : Turn s { s with h := t }) (e1 : s2.h = t) (e2 : s2.next = s.next) (e3 : s2.ng = s.ng) : Turn s s2 := fun w0 μ w hR => by
  obtain ⟨ν, k1, k2⟩ := h w0 μ w hR
  exact ⟨ν, k1, k2.same e1 e2 e3⟩

/-- An empty map that shall hold slices of its own. -/
theorem turn_dmap {s s2 : St} {i k z : Nat} (hi : s.h.get i = some (.map [] k)) (ht : Tr.set 64 s.h i (.dmap [] z) = some s2.h) (e2 : s2.next = s.next) (e3 : s2.ng = s.ng) : Turn s s2 := by
  refine Turn.of_set (t := s2.h) (fun w0 μ w hR => ?_) rfl e2 e3
  obtain ⟨p, hp, ⟨es', h1, h2⟩, hwr⟩ := hR.obj i _ hi (by simp)
  have hes : es'.toList = [] := List.eq_nil_of_length_eq_zero h2.1.symm
  exact ⟨_, hR.recast (x := .dmap [] z) (p' := { p with own := fun g => g = p.blk }) (fz' := μ.fz) hi (by simp) hp ⟨rfl, rfl, rfl⟩ ht (fun g hg => hg) (fun _ _ h => h) (fun _ _ h => .inl h)
    ⟨es', k, h1, rfl, fun g hg => by cases hg; exact block_lt h1, by rw [hes]; exact ⟨rfl, fun j e hj => by simp at hj, fun i j e e' x y _ hx => by simp at hx⟩⟩⟩
/-- An empty map that shall hold frozen values. -/
theorem turn_omap {s s2 : St} {i k : Nat} (hi : s.h.get i = some (.map [] k)) (ht : Tr.set 64 s.h i (.omap []) = some s2.h) (e2 : s2.next = s.next) (e3 : s2.ng = s.ng) : Turn s s2 := by
  refine Turn.of_set (t := s2.h) (fun w0 μ w hR => ?_) rfl e2 e3
  obtain ⟨p, hp, ⟨es', h1, h2⟩, hwr⟩ := hR.obj i _ hi (by simp)
  have hes : es'.toList = [] := List.eq_nil_of_length_eq_zero h2.1.symm
  exact ⟨_, hR.recast (x := .omap []) (p' := p) (fz' := μ.fz) hi (by simp) hp p.sim_refl ht (fun g hg => hg) (fun _ _ h => h) (fun _ _ h => .inl h)
    ⟨es', k, h1, by rw [hes]; exact ⟨rfl, fun j e hj => by simp at hj⟩⟩⟩

/-- What is nil is, among others, an empty slice. -/
theorem turn_row {s s2 : St} {i : Nat} {c c' : List Value} {e : TypeId} (hi : s.h.get i = some (.row false c e)) (ht : Tr.set 64 s.h i (.row false c' e) = some s2.h) (hl : c'.length = c.length)
    (hc : ∀ (j : Nat) v', c'[j]? = some v' → ∃ v, c[j]? = some v ∧ (v' = v ∨ (v = .slice none 0 0 ∧ v' = frz []))) (e2 : s2.next = s.next) (e3 : s2.ng = s.ng) : Turn s s2 := by
  refine Turn.of_set (t := s2.h) (fun w0 μ w hR => ?_) rfl e2 e3
  obtain ⟨p, hp, ⟨cur, h1, h2, h3, h4⟩, hwr⟩ := hR.obj i _ hi (by simp)
  refine ⟨_, hR.recast (x := .row false c' e) (p' := p) (fz' := μ.fz) hi (by simp) hp p.sim_refl ht (fun g hg => hg) (fun _ _ h => h) (fun _ _ h => .inl h) ⟨cur, h1, h2, by omega, fun j v' hj => ?_⟩⟩
  obtain ⟨v, k1, k2⟩ := hc j v' hj
  obtain ⟨u, m1, m2⟩ := h4 j v k1
  have hle : μ.le ⟨(μ.put i p).pl, μ.fz⟩ := ⟨(Mu.put_sim hp p.sim_refl).pl, fun _ _ h => h⟩
  rcases k2 with rfl | ⟨rfl, rfl⟩
  · exact ⟨u, m1, VR.mono hle m2⟩
  · refine ⟨u, m1, ?_⟩
    have m2 : VR μ (.slice none 0 0) u := m2
    cases m2
    exact .frz .frz0

open Classical in
/-- The slices of a map are frozen. -/
theorem turn_melt {s s2 : St} {i z : Nat} (hz : 0 < z)
    {es1 : List (Int × List Value)} {es2 : List (Int × Value)} (he1 : es1.length = es2.length) (hm : ∀ (j : Nat) x y, es1[j]? = some x → es2[j]? = some y → x.1 = y.1 ∧ ∃ els, y.2 = frz els ∧ flatV els = x.2 ∧ ∀ v ∈ els, v.cells.size = z)
    (hi : s.h.get i = some (.dmap es1 z)) (ht : Tr.set 64 s.h i (.omap es2) = some s2.h) (e2 : s2.next = s.next) (e3 : s2.ng = s.ng) : Turn s s2 := by
  refine Turn.of_set (t := s2.h) (fun w0 μ w hR => ?_) rfl e2 e3
  obtain ⟨p, hp, ⟨es', k, h1, h2, h3, h4⟩, hwr⟩ := hR.obj i _ hi (by simp)
  have nof : ∀ b O, μ.fz b = some O → ¬ p.own b := fun b O hb => hR.fzd b O i _ p hb hi hp
  refine ⟨_, hR.recast (x := .omap es2) (p' := p) (fz' := fun b => if p.own b ∧ b ≠ p.blk then w.heap[b]? else μ.fz b) hi (by simp) hp p.sim_refl ht (fun g hg => by rw [show g = p.blk from hg]; exact h2) (fun b O hb => ?_) (fun b O hb => ?_) ?_⟩
  · show (if p.own b ∧ b ≠ p.blk then w.heap[b]? else μ.fz b) = some O
    rw [if_neg fun k => nof b O hb k.1]
    exact hb
  · have hb : (if p.own b ∧ b ≠ p.blk then w.heap[b]? else μ.fz b) = some O := hb
    by_cases hc : p.own b ∧ b ≠ p.blk
    · rw [if_pos hc] at hb
      exact .inr ⟨hb, hc.1, hc.2⟩
    · rw [if_neg hc] at hb
      exact .inl hb
  · refine ⟨es', k, h1, by rw [← he1]; exact h4.1, fun j y hy => ?_⟩
    obtain ⟨x, hx⟩ : ∃ x, es1[j]? = some x := by
      have : j < es2.length := by
        rcases Nat.lt_or_ge j es2.length with h | h
        · exact h
        · rw [List.getElem?_eq_none h] at hy; cases hy
      exact ⟨es1[j], List.getElem?_eq_getElem (by omega)⟩
    obtain ⟨m1, els, m2, m3, m4⟩ := hm j x y hx hy
    obtain ⟨e', n1, n2, n3⟩ := h4.2.1 j x hx
    refine ⟨e', n1, by rw [← m1]; exact n2, ?_⟩
    rw [m2]
    have hlen := flatV_len m4
    rw [m3] at hlen
    rcases n3 with ⟨a, c, q1, q2⟩ | ⟨b, o, n, c, cur, e, q1, q2, q3, q4, q5, q6, q7, q8, _⟩
    · have : els = [] := by
        have hlen' : els.length * z = 0 := by rw [← hlen, q1]; rfl
        exact List.eq_nil_of_length_eq_zero ((Nat.mul_eq_zero.1 hlen').resolve_right (by omega))
      rw [this, q2]
      exact .frz0
    · have hn : n = els.length := by
        rw [hlen] at q2
        exact Nat.eq_of_mul_eq_mul_right hz q2
      subst hn
      rw [q1]
      refine .frz (b := b) (o := o) (z := z) (c := c) (cur := cur) (e := e) (fr := (0, 0)) ?_ hz m4 q8 (by omega) ?_
      · show (if p.own b ∧ b ≠ p.blk then w.heap[b]? else μ.fz b) = _
        rw [if_pos ⟨q6, q7⟩]
        exact q3
      · rw [m3, ← hlen]
        exact FRs.mono (fun b O hb => by
          show (if p.own b ∧ b ≠ p.blk then w.heap[b]? else μ.fz b) = some O
          rw [if_neg fun k => nof b O hb k.1]
          exact hb) q5
end
end Go.Hx

namespace Go.Hx
open Go Go.RowKit
section
variable {P : Program}
/-- At the end of a block. -/
def blkQ (P : Program) (n0 id : Nat) (ds : List Code) (Q : HX → St → HF → Prop) : HX → St → HF → Prop
  | .normal, s, f => Ex P n0 ds s f Q
  | .exit i, s, f => if i = id then Ex P n0 ds s f Q else Q (.exit i) s f
  | .ret, s, f => Q .ret s f
/-- A block that is no loop, and what follows. -/
theorem Ex.block {n0 : Nat} {id : Nat} {c : Code} {ds : List Code} {Q : HX → St → HF → Prop} {s : St} {f : HF} (h : Ex P n0 (flatC c) s f (blkQ P n0 id ds Q)) : Ex P n0 (.block id c :: ds) s f Q := by
  intro w0 μ w a hR hA
  show (Code.block id c).wp P _ a w
  refine wp_block ?_
  refine wp_mono (wp_of_flat c _ _ _ (h w0 μ w a hR hA)) fun e a' w' ⟨x, s', f', e1, e2, ν, e3, e4, e5⟩ => ?_
  subst e1
  have go : Ex P n0 ds s' f' Q → wpl P ds (fun e a' w' => ∃ x s' f', e = x.ex ∧ Q x s' f' ∧ ∃ ν, leN n0 μ ν ∧ R w0 ν s' w' ∧ AR ν f' a') a' w' := fun hq =>
    wpl_mono (fun e a w ⟨x, s', f', e1, e2, ν', e6, e7⟩ => ⟨x, s', f', e1, e2, ν', e3.trans e6, e7⟩) _ _ _ (hq w0 ν w' a' e4 e5)
  cases x with
  | normal => exact go e2
  | exit i =>
    have e2 : if i = id then Ex P n0 ds s' f' Q else Q (.exit i) s' f' := e2
    show Exit.inBlock id _ (.exit i) a' w'
    simp only [Exit.inBlock]
    by_cases hi : i = id
    · rw [if_pos hi] at e2 ⊢
      exact go e2
    · rw [if_neg hi] at e2 ⊢
      exact ⟨.exit i, s', f', rfl, e2, ν, e3, e4, e5⟩
  | ret => exact ⟨.ret, s', f', rfl, e2, ν, e3, e4, e5⟩
end
end Go.Hx
