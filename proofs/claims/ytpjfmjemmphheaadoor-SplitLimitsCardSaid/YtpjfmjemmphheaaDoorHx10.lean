/- The executor's frames, regions, control and calls. -/
import Derived.Test.YtpjfmjemmphheaaDoorHx9
import Derived.LoopN
namespace Go.Hx
open Go Go.RowKit

section
variable {η : Int → Int} {w0 : World} {μ : Mu} {s : St} {w : World} {P : Program} {fx : Facts} {f : HF} {a : Act}

theorem AR.mono {ν : Mu} (hl : μ.le ν) (h : AR η μ f a) : AR η ν f a := ⟨h.size, fun d hd => (h.vals d hd).mono hl, h.ds.mono hl⟩

theorem undef_vr : VR η μ undef undef := .tuple .nil

theorem ev_sound (h : R η w0 μ s w) (ha : AR η μ f a) : ∀ x v, f.ev s x = some v → VR η μ v (a.eval x) := by
  intro x v hv
  cases x with
  | tmp d =>
    simp only [HF.ev] at hv
    obtain ⟨hd, hv⟩ := bif_some hv
    cases hv
    exact ha.vals d (blt_lt hd)
  | const u =>
    simp only [HF.ev] at hv
    obtain ⟨hd, hv⟩ := bif_some hv
    cases hv
    exact flat_self 4 _ hd
  | global g =>
    simp only [HF.ev] at hv
    obtain ⟨hd, hv⟩ := bif_some hv
    cases hv
    obtain ⟨r, hr⟩ := h.gl g (blt_lt hd)
    exact .ptr (o := 0) hr
  | func g =>
    simp only [HF.ev, Option.some.injEq] at hv
    subst hv
    exact .func .nil .nil

theorem put_sound (ha : AR η μ f a) {d : Option Tmp} {v v' : Value} (hv : VR η μ v v') {f' : HF} (hp : f.put d v = some f') : AR η μ f' (a.put d v') := by
  cases d with
  | none => simp only [HF.put, Option.some.injEq] at hp; subst hp; exact ha
  | some d =>
    simp only [HF.put] at hp
    obtain ⟨hd, hp⟩ := bif_some hp
    simp only [Option.map_eq_some_iff] at hp
    obtain ⟨t, ht, rfl⟩ := hp
    have hd := blt_lt hd
    have hg := Tr.get_set 64 f.t t d v ht
    refine ⟨by simp [Act.put, ha.size], fun e hed => ?_, ha.ds⟩
    have hsz := ha.size
    simp only [HF.get, hg]
    by_cases hde : e = d
    · subst hde
      simp [Act.put, hsz, hd]
      exact hv
    · rw [if_neg hde]
      have := ha.vals e hed
      have e1 : (a.put (some d) v').tmps.getD e undef = a.tmps.getD e undef := by
        have hne : d ≠ e := fun h => hde h.symm
        simp [Act.put, Array.getD_eq_getD_getElem?, hne]
      rw [e1]
      exact this

/-- Is the operation carried out? -/
def hWanted (f : HF) (ops : List Oper) (o : Oper) : Option Bool :=
  match o.guard with
  | none => some true
  | some (j, b) => match ops[j]? with
    | none => some false
    | some x => match x.dst with
      | none => some false
      | some d => bif Nat.blt d f.n then (match f.get d with
          | .bool c => some (c == b)
          | .tuple _ => some false
          | _ => none) else none

theorem wanted_sound (ha : AR η μ f a) {ops : Array Oper} {o : Oper} {b : Bool} (h : hWanted f ops.toList o = some b) : Region.wanted o (yielded ops a.tmps) = b := by
  unfold hWanted at h
  unfold Region.wanted
  split at h
  · rename_i hg
    rw [hg]
    cases h
    rfl
  · rename_i j b' hg
    rw [hg]
    dsimp only
    unfold yielded
    rw [← Array.getElem?_toList]
    split at h
    · rename_i hj
      rw [hj]
      cases h
      rfl
    · rename_i x hj
      rw [hj]
      split at h
      · rename_i hd
        simp only [Option.bind_some, hd, Option.bind_none]
        cases h
        rfl
      · rename_i d hd
        obtain ⟨hdn, h⟩ := bif_some h
        have hdn := blt_lt hdn
        have hv := ha.vals d hdn
        have hsz : d < a.tmps.size := by rw [ha.size]; exact hdn
        simp only [Option.bind_some, hd, Array.getElem?_eq_getElem hsz]
        have hgd : a.tmps.getD d undef = a.tmps[d] := by simp [hsz]
        rw [hgd] at hv
        generalize a.tmps[d] = u at hv ⊢
        split at h
        · rename_i c hc
          rw [hc] at hv
          cases hv
          cases h
          cases c <;> cases b' <;> rfl
        · rename_i l hc
          rw [hc] at hv
          cases hv
          cases h
          rfl
        · cases h

/-! ### What is shown of a piece of code -/
inductive HX where
  | normal
  | exit (id : Nat)
  | ret

def HX.ex : HX → Exit
  | .normal => .normal
  | .exit id => .exit id
  | .ret => .ret

def Post (η : Int → Int) (w0 : World) (μ : Mu) (x : HX) (s : St) (f : HF) : Exit → Act → World → Prop :=
  fun e a w => e = x.ex ∧ ∃ μ', μ.le μ' ∧ R η w0 μ' s w ∧ AR η μ' f a

abbrev HCall := FuncId → List Value → St → Option (Value × St)

def CallOK (P : Program) (η : Int → Int) (call : HCall) : Prop :=
  ∀ (w0 : World) (μ : Mu) (s s' : St) (w : World) (g : FuncId) (args args' : List Value) (v : Value), R η w0 μ s w → VRs η μ args args' → call g args s = some (v, s') →
    Calls P g ⟨args'⟩ w fun e w' => ∃ v' μ', e = .returned v' ∧ μ.le μ' ∧ R η w0 μ' s' w' ∧ VR η μ' v v'

/-! ### A region in the order of the text -/
def hstep (P : Program) (fx : Facts) (call : HCall) (ops : List Oper) (o : Oper) (s : St) (f : HF) : Option (St × HF) :=
  match hWanted f ops o with
  | none => none
  | some false => match f.put o.dst undef with
    | some f' => some (s, f')
    | none => none
  | some true => match hop P fx s (f.ev s) o with
    | some (.val v, s') => match f.put o.dst v with
      | some f' => some (s', f')
      | none => none
    | some (.skip, s') => match f.put o.dst undef with
      | some f' => some (s', f')
      | none => none
    | some (.enter g args, s') => match call g args s' with
      | some (v, s'') => match f.put o.dst v with
        | some f' => some (s'', f')
        | none => none
      | none => none
    | _ => none

def hops (P : Program) (fx : Facts) (call : HCall) (ops : List Oper) : List Oper → St → HF → Option (St × HF)
  | [], s, f => some (s, f)
  | o :: rest, s, f => match hstep P fx call ops o s f with
    | some (s', f') => hops P fx call ops rest s' f'
    | none => none

theorem hops_sound (hfx : FactsOK η fx) (hg : NoG P) {call : HCall} (hc : CallOK P η call) {ops : Array Oper} {μ0 : Mu} : ∀ (l : List Oper) (μ : Mu) (s s' : St) (w : World) (f f' : HF) (a : Act),
    μ0.le μ → R η w0 μ s w → AR η μ f a → hops P fx call ops.toList l s f = some (s', f') → wpList P ops (Post η w0 μ0 .normal s' f') l a w := by
  intro l
  induction l with
  | nil =>
    intro μ s s' w f f' a hμ h ha hr
    simp only [hops, Option.some.injEq, Prod.mk.injEq] at hr
    obtain ⟨rfl, rfl⟩ := hr
    exact ⟨rfl, μ, hμ, h, ha⟩
  | cons o rest ih =>
    intro μ s s' w f f' a hμ h ha hr
    simp only [hops] at hr
    split at hr
    · rename_i s1 f1 hs1
      unfold hstep at hs1
      split at hs1
      · cases hs1
      · rename_i hw
        have hw := wanted_sound ha hw
        split at hs1
        · rename_i f2 hf2
          cases hs1
          have := ih μ _ s' w _ f' _ hμ h (put_sound ha undef_vr hf2) hr
          unfold wpList
          rw [if_neg (by rw [hw]; exact Bool.noConfusion)]
          exact this
        · cases hs1
      · rename_i hw
        have hw := wanted_sound ha hw
        have he := ev_sound h ha
        unfold wpList
        rw [if_pos hw]
        refine .inl ?_
        unfold Oper.wp
        split at hs1
        · rename_i v s2 ho
          split at hs1
          · rename_i f2 hf2
            cases hs1
            obtain ⟨v', w', μ', k1, k2, k3, k4⟩ := hop_sound hfx hg h he ho
            rw [k1, Oper.upon_value]
            exact ih μ' _ s' w' _ f' _ (Mu.le_trans hμ k2) k3 (put_sound (ha.mono k2) k4 hf2) hr
          · cases hs1
        · rename_i s2 ho
          split at hs1
          · rename_i f2 hf2
            cases hs1
            obtain ⟨w', μ', k1, k2, k3⟩ := hop_sound hfx hg h he ho
            rw [k1, Oper.upon_skip]
            exact ih μ' _ s' w' _ f' _ (Mu.le_trans hμ k2) k3 (put_sound (ha.mono k2) undef_vr hf2) hr
          · cases hs1
        · rename_i g args s2 ho
          split at hs1
          · rename_i v s3 hcall
            split at hs1
            · rename_i f2 hf2
              cases hs1
              obtain ⟨args', k1, k2, k3⟩ := hop_sound hfx hg h he ho
              rw [k1, Oper.upon_enter]
              refine (hc w0 μ _ _ w g args args' v k2 k3 hcall).mono fun e w' ⟨v', μ', e1, e2, e3, e4⟩ => ?_
              subst e1
              exact ih μ' _ s' w' _ f' _ (Mu.le_trans hμ e2) e3 (put_sound (ha.mono e2) e4 hf2) hr
            · cases hs1
          · cases hs1
        · cases hs1
    · cases hr

/-! ### A region that draws its order, all of whose operations are quiet -/
def hent (P : Program) (ev : Operand → Option Value) (o : Oper) : Option (FuncId × List Value) :=
  match o.op with
  | .call c => match c.callee, evs ev c.args.toList with
    | .value f, some args => match ev f with
      | some vf => hCallee P vf args
      | none => none
    | _, _ => none
  | _ => none

theorem hent_sound {ev : Operand → Option Value} {ρ : Operand → Value} (hg : NoG P) (he : ∀ x v, ev x = some v → VR η μ v (ρ x)) {o : Oper} {g : FuncId} {args : List Value} (ho : hent P ev o = some (g, args)) :
    ∃ args', VRs η μ args args' ∧ ∀ w', (execOp ρ o).run P w' = .ok (.enter g ⟨args'⟩) w' := by
  unfold hent at ho
  unfold execOp
  split at ho
  · rename_i c hop
    rw [hop]
    split at ho
    · rename_i f args hc ha
      split at ho
      · rename_i vf hvf
        have hvr := he _ _ hvf
        have har := evs_sound he _ _ ha
        unfold hCallee at ho
        split at ho
        · rename_i g0 first cap
          obtain ⟨hb, ho⟩ := bif_some ho
          simp only [Option.some.injEq, Prod.mk.injEq] at ho
          obtain ⟨rfl, rfl⟩ := ho
          generalize hρ : ρ f = vf' at hvr
          cases hvr with
          | func h1 h2 =>
            rename_i fl fl' cl cl'
            refine ⟨fl' ++ c.args.toList.map ρ ++ cl', (h1.append har).append h2, fun w' => ?_⟩
            simp only [resolve, hc, hρ, Deferred.ofValue, Sem.run_bind, Sem.run_pure, Result.andThen_ok, invoke, run_callFunc hg hb]
            congr 2
            apply Array.ext'
            simp
        · cases ho
      · cases ho
    · cases ho
  · cases ho

def hqstep (P : Program) (fx : Facts) (call : HCall) (ops : List Oper) (o : Oper) (s : St) (f : HF) : Option HF :=
  match hWanted f ops o with
  | none => none
  | some false => f.put o.dst undef
  | some true => match hent P (f.ev s) o with
    | some (g, args) => match call g args s with
        | some (v, _) => bif flatN 4 v then f.put o.dst v else none
        | none => none
    | none => match hstill P fx s (f.ev s) o with
      | some v => f.put o.dst v
      | none => none

def hqops (P : Program) (fx : Facts) (call : HCall) (ops : List Oper) (s : St) : List Oper → HF → Option HF
  | [], f => some f
  | o :: rest, f => match hqstep P fx call ops o s f with
    | some f' => hqops P fx call ops s rest f'
    | none => none

/-- (The state: with the old rows held fast: its world is the base.) -/
theorem hqops_sound (hfx : FactsOK η fx) (hg : NoG P) {call : HCall} (hc : CallOK P η call) {ops : Array Oper} (h : R η w μ s w) : ∀ (l : List Oper) (f f' : HF) (a : Act),
    AR η μ f a → hqops P fx call ops.toList s l f = some f' → wpQuiet P ops (fun w' => Below w.heap.size w w') (fun a' => AR η μ f' a') l a := by
  intro l
  induction l with
  | nil =>
    intro f f' a ha hr
    simp only [hqops, Option.some.injEq] at hr
    subst hr
    exact ha
  | cons o rest ih =>
    intro f f' a ha hr
    simp only [hqops] at hr
    split at hr
    · rename_i f1 hs1
      unfold hqstep at hs1
      split at hs1
      · cases hs1
      · rename_i hw
        have hw := wanted_sound ha hw
        unfold wpQuiet
        rw [if_neg (by rw [hw]; exact Bool.noConfusion)]
        exact ih f1 f' _ (put_sound ha undef_vr hs1) hr
      · rename_i hw
        have hw := wanted_sound ha hw
        have he := ev_sound h ha
        unfold wpQuiet
        rw [if_pos hw]
        split at hs1
        · rename_i g args ho
          split at hs1
          · rename_i v s2 hcall
            obtain ⟨hfl, hs1⟩ := bif_some hs1
            obtain ⟨args', k1, k2⟩ := hent_sound hg he ho
            refine ⟨v, fun w' hw' => ?_, ih f1 f' _ (put_sound ha (flat_self 4 v hfl) hs1) hr⟩
            unfold Oper.quietAt
            rw [k2 w']
            refine ⟨rfl, (hc w μ s s2 w' g args args' v (h.garbage hw') k1 hcall).mono fun e w'' ⟨v', μ', e1, e2, e3, e4⟩ => ?_⟩
            rw [← flat_eq 4 _ _ hfl e4] at e1
            exact ⟨e1, e3.below⟩
          · cases hs1
        · split at hs1
          · rename_i v ho
            obtain ⟨v', k1, k2⟩ := hstill_sound hfx h he ho
            refine ⟨v', fun w' hw' => ?_, ih f1 f' _ (put_sound ha k2 hs1) hr⟩
            unfold Oper.quietAt
            rw [k1 w' hw']
            exact ⟨rfl, rfl⟩
          · cases hs1
    · cases hr

def hdraw (P : Program) (fx : Facts) (call : HCall) (ops : Array Oper) (s : St) (f : HF) : Option (St × HF) :=
  bif P.follows .mixedOrders && Region.lexB .any ops then
    match hqops P fx call ops.toList { s with lo := s.next } ops.toList f with
    | some f' => some (s, f')
    | none => none
  else none

theorem hdraw_sound (hfx : FactsOK η fx) (hg : NoG P) {call : HCall} (hc : CallOK P η call) {ops : Array Oper} {id : Nat} {μ0 : Mu} {s' : St} {f' : HF} (hμ : μ0.le μ) (h : R η w0 μ s w) (ha : AR η μ f a)
    (hr : hdraw P fx call ops s f = some (s', f')) : (Code.region id ops true).wp P (Post η w0 μ0 .normal s' f') a w := by
  unfold hdraw at hr
  obtain ⟨hb, hr⟩ := bif_some hr
  simp only [Bool.and_eq_true] at hb
  split at hr
  · rename_i f1 hq
    simp only [Option.some.injEq, Prod.mk.injEq] at hr
    obtain ⟨rfl, rfl⟩ := hr
    have hp := hqops_sound hfx hg hc h.protect ops.toList f f1 a ha hq
    refine wp_region_quiet hb.1 hb.2 (C := fun w' => Below w.heap.size w w') ((Below.refl _ _).drew) ?_
    have key : ∀ (l : List Oper) (a : Act), wpQuiet P ops (fun w' => Below w.heap.size w w') (fun a' => AR η μ f1 a') l a →
        wpQuiet P ops (fun w' => Below w.heap.size w w') (fun a' => ∀ w', Below w.heap.size w w' → Post η w0 μ0 .normal s f1 .normal a' w') l a := by
      intro l
      induction l with
      | nil => intro a h1; exact fun w' hw' => ⟨rfl, μ, hμ, h.garbage hw', h1⟩
      | cons o rest ih =>
        intro a h1
        unfold wpQuiet at h1 ⊢
        split
        · rename_i hw; rw [if_pos hw] at h1; exact Oper.quiet_mono (fun a h => ih a h) h1
        · rename_i hw; rw [if_neg hw] at h1; exact ih _ h1
    exact key _ _ hp
  · cases hr

/-! ### Code -/
def hloop (g : St → HF → Option (HX × St × HF)) : Nat → St → HF → Option (HX × St × HF)
  | 0, _, _ => none
  | n + 1, s, f => match g s f with
    | some (.normal, s', f') => hloop g n s' f'
    | r => r

def hcode (P : Program) (fx : Facts) (call : HCall) (lf : Nat) : Code → St → HF → Option (HX × St × HF)
  | .skip, s, f => some (.normal, s, f)
  | .label _, s, f => some (.normal, s, f)
  | .region _ ops true, s, f => match hdraw P fx call ops s f with
    | some (s', f') => some (.normal, s', f')
    | none => none
  | .region _ ops false, s, f => match hops P fx call ops.toList ops.toList s f with
    | some (s', f') => some (.normal, s', f')
    | none => none
  | .seq x y, s, f => match hcode P fx call lf x s f with
    | some (.normal, s', f') => hcode P fx call lf y s' f'
    | r => r
  | .cond c x y, s, f => match f.ev s c with
    | some (.bool true) => hcode P fx call lf x s f
    | some (.bool false) => hcode P fx call lf y s f
    | _ => none
  | .block id x, s, f => match hcode P fx call lf x s f with
    | some (.exit i, s', f') => bif Nat.beq i id then some (.normal, s', f') else some (.exit i, s', f')
    | r => r
  | .loop x, s, f => hloop (hcode P fx call lf x) lf s f
  | .exit id, s, f => some (.exit id, s, f)
  | .ret, s, f => some (.ret, s, f)
  | _, _, _ => none

theorem Post.le {x : HX} {s : St} {f : HF} {μ0 μ1 : Mu} (h : μ0.le μ1) {e : Exit} {a : Act} {w : World} (k : Post η w0 μ1 x s f e a w) : Post η w0 μ0 x s f e a w :=
  ⟨k.1, let ⟨μ', k1, k2, k3⟩ := k.2; ⟨μ', Mu.le_trans h k1, k2, k3⟩⟩

def CodeOK (P : Program) (η : Int → Int) (c : Code) (g : St → HF → Option (HX × St × HF)) : Prop :=
  ∀ (w0 : World) (μ : Mu) (s s' : St) (w : World) (f f' : HF) (a : Act) (x : HX), R η w0 μ s w → AR η μ f a → g s f = some (x, s', f') → c.wp P (Post η w0 μ x s' f') a w

theorem hloop_sound {c : Code} {g : St → HF → Option (HX × St × HF)} (hk : CodeOK P η c g) : ∀ (n : Nat) (μ : Mu) (s s' : St) (w : World) (f f' : HF) (a : Act) (x : HX),
    R η w0 μ s w → AR η μ f a → hloop g n s f = some (x, s', f') → Code.rounds P c (Post η w0 μ x s' f') n a w := by
  intro n
  induction n with
  | zero => intro μ s s' w f f' a x _ _ h; cases h
  | succ n ih =>
    intro μ s s' w f f' a x h ha hr
    simp only [hloop] at hr
    rw [rounds_succ]
    split at hr
    · rename_i s1 f1 h1
      refine wp_mono (hk w0 μ s s1 w f f1 a .normal h ha h1) fun e a' w' ⟨he, μ', k1, k2, k3⟩ => ?_
      cases he
      have := ih μ' s1 s' w' f1 f' a' x k2 k3 hr
      have mono : ∀ (n : Nat) (a : Act) (w : World), Code.rounds P c (Post η w0 μ' x s' f') n a w → Code.rounds P c (Post η w0 μ x s' f') n a w := by
        intro n
        induction n with
        | zero => intro a w h; exact h
        | succ n ihn =>
          intro a w h
          rw [rounds_succ] at h ⊢
          refine wp_mono h fun e a' w' hq => ?_
          cases e <;> first | exact ihn _ _ hq | exact Post.le k1 hq
      exact mono n a' w' this
    · rename_i hne
      refine wp_mono (hk w0 μ s s' w f f' a x h ha hr) fun e a' w' hq => ?_
      have he := hq.1
      cases x with
      | normal => exact absurd hr (hne s' f')
      | exit i => cases he; exact hq
      | ret => cases he; exact hq

theorem hcode_sound (hfx : FactsOK η fx) (hg : NoG P) {call : HCall} (hc : CallOK P η call) (lf : Nat) : ∀ c : Code, CodeOK P η c (hcode P fx call lf c) := by
  intro c
  induction c with
  | skip =>
    intro w0 μ s s' w f f' a x h ha hr
    cases hr
    exact wp_skip ⟨rfl, μ, Mu.le_refl _, h, ha⟩
  | label l =>
    intro w0 μ s s' w f f' a x h ha hr
    cases hr
    exact wp_label ⟨rfl, μ, Mu.le_refl _, h, ha⟩
  | region id ops draw =>
    intro w0 μ s s' w f f' a x h ha hr
    cases draw with
    | true =>
      simp only [hcode] at hr
      split at hr
      · rename_i s1 f1 h1
        cases hr
        exact hdraw_sound hfx hg hc (Mu.le_refl _) h ha h1
      · cases hr
    | false =>
      simp only [hcode] at hr
      split at hr
      · rename_i s1 f1 h1
        cases hr
        exact wp_region_list (hops_sound hfx hg hc _ μ _ _ _ _ _ _ (Mu.le_refl _) h ha h1)
      · cases hr
  | seq x y ihx ihy =>
    intro w0 μ s s' w f f' a e h ha hr
    simp only [hcode] at hr
    refine wp_seq ?_
    split at hr
    · rename_i s1 f1 h1
      refine wp_mono (ihx w0 μ s s1 w f f1 a .normal h ha h1) fun e1 a' w' ⟨he, μ', k1, k2, k3⟩ => ?_
      cases he
      exact wp_mono (ihy w0 μ' s1 s' w' f1 f' a' e k2 k3 hr) fun _ _ _ hq => Post.le k1 hq
    · rename_i hne
      refine wp_mono (ihx w0 μ s s' w f f' a e h ha hr) fun e1 a' w' hq => ?_
      have he := hq.1
      cases e with
      | normal => exact absurd hr (hne s' f')
      | exit i => cases he; exact hq
      | ret => cases he; exact hq
  | cond c x y ihx ihy =>
    intro w0 μ s s' w f f' a e h ha hr
    simp only [hcode] at hr
    split at hr
    · rename_i hcv
      have := ev_sound h ha _ _ hcv
      refine wp_cond_true ?_ (ihx w0 μ s s' w f f' a e h ha hr)
      generalize a.eval c = vc at this ⊢
      cases this
      rfl
    · rename_i hcv
      have := ev_sound h ha _ _ hcv
      refine wp_cond_false ?_ (ihy w0 μ s s' w f f' a e h ha hr)
      generalize a.eval c = vc at this ⊢
      cases this
      rfl
    · cases hr
  | block id x ihx =>
    intro w0 μ s s' w f f' a e h ha hr
    simp only [hcode] at hr
    refine wp_block ?_
    split at hr
    · rename_i i s1 f1 h1
      refine wp_mono (ihx w0 μ s s1 w f f1 a (.exit i) h ha h1) fun e1 a' w' hq => ?_
      obtain ⟨he, hq'⟩ := hq
      cases he
      simp only [Exit.inBlock, HX.ex]
      cases hb : Nat.beq i id with
      | true =>
        rw [hb] at hr
        cases hr
        rw [if_pos ((beq_iff _ _).1 hb)]
        exact ⟨rfl, hq'⟩
      | false =>
        rw [hb] at hr
        cases hr
        rw [if_neg (fun e => by rw [(beq_iff _ _).2 e] at hb; cases hb)]
        exact ⟨rfl, hq'⟩
    · rename_i hne
      refine wp_mono (ihx w0 μ s s' w f f' a e h ha hr) fun e1 a' w' hq => ?_
      have he := hq.1
      cases e with
      | normal => cases he; exact hq
      | exit i => exact absurd hr (hne i s' f')
      | ret => cases he; exact hq
  | loop x ihx =>
    intro w0 μ s s' w f f' a e h ha hr
    simp only [hcode] at hr
    exact wp_loop_rounds lf (hloop_sound ihx lf μ s s' w f f' a e h ha hr)
  | exit id =>
    intro w0 μ s s' w f f' a x h ha hr
    cases hr
    exact wp_exit ⟨rfl, μ, Mu.le_refl _, h, ha⟩
  | ret =>
    intro w0 μ s s' w f f' a x h ha hr
    cases hr
    exact wp_ret ⟨rfl, μ, Mu.le_refl _, h, ha⟩
  | _ => intro w0 μ s s' w f f' a x h ha hr; cases hr

end
end Go.Hx
