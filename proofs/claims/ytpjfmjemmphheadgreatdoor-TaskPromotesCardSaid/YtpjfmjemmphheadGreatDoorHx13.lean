/- Code as a list of pieces; from one abstract state to another one that says less, or says it in other names; loops; whole functions. -/
import Derived.Test.YtpjfmjemmphheadGreatDoorHx12
namespace Go.Hx
open Go Go.RowKit

/-! ### Code as a list -/
def flatC : Code → List Code
  | .seq a b => flatC a ++ flatC b
  | c => [c]

section
variable {P : Program}

def wpl (P : Program) : List Code → (Exit → Act → World → Prop) → Act → World → Prop
  | [], Q, a, w => Q .normal a w
  | c :: cs, Q, a, w => c.wp P (Exit.then (wpl P cs Q) Q) a w

theorem then_mono {N N' : Act → World → Prop} {Q Q' : Exit → Act → World → Prop} (hn : ∀ a w, N a w → N' a w) (hq : ∀ e a w, Q e a w → Q' e a w) : ∀ e a w, Exit.then N Q e a w → Exit.then N' Q' e a w := fun e a w h => by
  cases e with
  | normal => exact hn _ _ h
  | _ => exact hq _ _ _ h

theorem wpl_mono {Q Q' : Exit → Act → World → Prop} (hq : ∀ e a w, Q e a w → Q' e a w) : ∀ (cs : List Code) (a : Act) (w : World), wpl P cs Q a w → wpl P cs Q' a w
  | [], _, _, h => hq _ _ _ h
  | _ :: cs, _, _, h => wp_mono h (then_mono (wpl_mono hq cs) hq)

theorem wpl_append {Q : Exit → Act → World → Prop} (ds : List Code) : ∀ (cs : List Code) (a : Act) (w : World), wpl P cs (Exit.then (wpl P ds Q) Q) a w → wpl P (cs ++ ds) Q a w
  | [], _, _, h => h
  | _ :: cs, _, _, h => wp_mono h fun e a w he => by
      cases e with
      | normal => exact wpl_append ds cs a w he
      | _ => exact he

theorem wpl_append' {Q : Exit → Act → World → Prop} (ds : List Code) : ∀ (cs : List Code) (a : Act) (w : World), wpl P (cs ++ ds) Q a w → wpl P cs (Exit.then (wpl P ds Q) Q) a w
  | [], _, _, h => h
  | _ :: cs, _, _, h => wp_mono h fun e a w he => by
      cases e with
      | normal => exact wpl_append' ds cs a w he
      | _ => exact he

theorem wp_of_flat : ∀ (c : Code) (Q : Exit → Act → World → Prop) (a : Act) (w : World), wpl P (flatC c) Q a w → c.wp P Q a w := by
  intro c
  induction c with
  | seq x y ihx ihy =>
    intro Q a w h
    refine wp_seq (ihx _ a w ?_)
    exact wpl_mono (then_mono (fun a w h => ihy Q a w h) (fun _ _ _ h => h)) _ _ _ (wpl_append' _ _ _ _ h)
  | _ =>
    intro Q a w h
    refine wp_mono h fun e a w he => ?_
    cases e <;> exact he

/-! ### The executor on a list -/
def hlist (P : Program) (fx : Facts) (call : HCall) (lf : Nat) : List Code → St → HF → Option (HX × St × HF)
  | [], s, f => some (.normal, s, f)
  | c :: cs, s, f => match hcode P fx call lf c s f with
    | some (.normal, s', f') => hlist P fx call lf cs s' f'
    | r => r

section
variable {η : Env} {fx : Facts} {w0 : Base} {μ : Mu} {s : St} {f : HF} {a : Act} {w : World}

theorem hlist_sound (hfx : FxOK P η fx) (hg : NoG P) {call : HCall} (hc : CallOK P η call) (lf : Nat) : ∀ (cs : List Code) (μ : Mu) (s s' : St) (w : World) (f f' : HF) (a : Act) (x : HX),
    R η w0 μ s w → AR η μ f a → hlist P fx call lf cs s f = some (x, s', f') → wpl P cs (Post η w0 μ x s' f') a w := by
  intro cs
  induction cs with
  | nil =>
    intro μ s s' w f f' a x h ha hr
    cases hr
    exact ⟨rfl, μ, Mu.le_refl _, h, ha⟩
  | cons c cs ih =>
    intro μ s s' w f f' a x h ha hr
    simp only [hlist] at hr
    split at hr
    · rename_i s1 f1 h1
      refine wp_mono (hcode_sound hfx hg hc lf c w0 μ s s1 w f f1 a .normal h ha h1) fun e a' w' ⟨he, μ', k1, k2, k3⟩ => ?_
      subst he
      exact wpl_mono (fun _ _ _ hq => Post.le k1 hq) _ _ _ (ih μ' s1 s' w' f1 f' a' x k2 k3 hr)
    · rename_i hne
      refine wp_mono (hcode_sound hfx hg hc lf c w0 μ s s' w f f' a x h ha hr) fun e a' w' hq => ?_
      have he := hq.1
      cases x with
      | normal => exact absurd hr (hne s' f')
      | exit i => subst he; exact hq
      | ret => subst he; exact hq

/-- A run of pieces, and what follows. -/
theorem seg (hfx : FxOK P η fx) (hg : NoG P) {call : HCall} (hc : CallOK P η call) (lf : Nat) {cs ds : List Code} {x : HX} {s' : St} {f' : HF} {Q : Exit → Act → World → Prop} (h : R η w0 μ s w) (ha : AR η μ f a)
    (hr : hlist P fx call lf cs s f = some (x, s', f')) (k : ∀ μ' a' w', μ.le μ' → R η w0 μ' s' w' → AR η μ' f' a' → Exit.then (wpl P ds Q) Q x.ex a' w') : wpl P (cs ++ ds) Q a w :=
  wpl_append ds cs a w (wpl_mono (fun _ a' w' ⟨he, μ', k1, k2, k3⟩ => by subst he; exact k μ' a' w' k1 k2 k3) _ _ _ (hlist_sound hfx hg hc lf cs μ s s' w f f' a x h ha hr))

theorem seg1 (hfx : FxOK P η fx) (hg : NoG P) {call : HCall} (hc : CallOK P η call) (lf : Nat) {c : Code} {x : HX} {s' : St} {f' : HF} {Q : Exit → Act → World → Prop} (h : R η w0 μ s w) (ha : AR η μ f a)
    (hr : hcode P fx call lf c s f = some (x, s', f')) (k : ∀ μ' a' w', μ.le μ' → R η w0 μ' s' w' → AR η μ' f' a' → Q x.ex a' w') : c.wp P Q a w :=
  wp_mono (hcode_sound hfx hg hc lf c w0 μ s s' w f f' a x h ha hr) fun _ a' w' ⟨he, μ', k1, k2, k3⟩ => by subst he; exact k μ' a' w' k1 k2 k3
end

/-! ### A whole function -/
def fnPost (P : Program) (fn : Func) (R' : Ending → World → Prop) (e : Exit) (a : Act) (w : World) : Prop :=
  (e = .normal ∨ e = .ret) ∧ a.defers = [] ∧ ∃ v, (results fn a.tmps).run P w = .ok v w ∧ R' (.returned v) w

theorem fn_run {g : FuncId} {fn : Func} {c : Code} {args : List Value} {w : World} {R' : Ending → World → Prop} (hf : P.funcs[g]? = some fn) (hb : fn.body = some c)
    (h : wpl P (flatC c) (fnPost P fn R') { tmps := (⟨args⟩ : Array Value) ++ Array.replicate (fn.ntmps - (⟨args⟩ : Array Value).size) undef, defers := [] } w) : Calls P g ⟨args⟩ w R' :=
  calls_of_wp_defers hf hb (wp_of_flat c _ _ _ (wpl_mono (fun e a w ⟨he, hd, v, k1, k2⟩ => by
    rcases he with rfl | rfl <;> (show Leaves P fn a.tmps R' a.defers .returning w; rw [hd]; exact ⟨v, k1, k2⟩)) _ _ _ h))

theorem fn_end {η : Env} {β : Base} {μ : Mu} {s : St} {f : HF} {a : Act} {w : World} {fn : Func} {x : HX} {r : List Value} {R' : Ending → World → Prop} (hx : x = .normal ∨ x = .ret) (h : R η β μ s w) (ha : AR η μ f a) (hd : f.ds = [])
    (hr : hRes P s f fn.results.toList = some r) (k : ∀ v, VR η μ (hTuple r) v → R' (.returned v) w) : fnPost P fn R' x.ex a w := by
  obtain ⟨v, k1, k2⟩ := results_sound h ha hr
  refine ⟨?_, ?_, v, k1, k v k2⟩
  · rcases hx with rfl | rfl
    · exact .inl rfl
    · exact .inr rfl
  · have := ha.ds
    rw [hd] at this
    generalize a.defers = l at this
    cases this
    rfl

/-! ### Loops -/
theorem loop_to {c : Code} {Q : Exit → Act → World → Prop} (N : Nat) (I : Nat → Act → World → Prop)
    (step : ∀ k, k < N → ∀ a w, I k a w → c.wp P (Exit.then (I (k + 1)) Q) a w) (last : ∀ a w, I N a w → c.wp P (Exit.then (fun _ _ => False) Q) a w) :
    ∀ k, k ≤ N → ∀ a w, I k a w → (Code.loop c).wp P Q a w := by
  have key : ∀ m k, k + m = N → ∀ a w, I k a w → Code.rounds P c Q (m + 1) a w := by
    intro m
    induction m with
    | zero =>
      intro k hk a w hI
      obtain rfl : k = N := by omega
      rw [rounds_succ]
      exact wp_mono (last a w hI) (then_mono (fun _ _ h => h.elim) (fun _ _ _ h => h))
    | succ m ih =>
      intro k hk a w hI
      rw [rounds_succ]
      exact wp_mono (step k (by omega) a w hI) (then_mono (fun a w h => ih (k + 1) (by omega) a w h) (fun _ _ _ h => h))
  intro k hk a w hI
  exact wp_loop_rounds (N - k + 1) (key (N - k) k (by omega) a w hI)

/-- The piece that is a loop inside its block. -/
def loopB : Code → Option (Nat × Code)
  | .block id (.loop c) => some (id, c)
  | _ => none
theorem loopB_eq {c b : Code} {id : Nat} (h : loopB c = some (id, b)) : c = .block id (.loop b) := by
  unfold loopB at h
  split at h
  · simp only [Option.some.injEq, Prod.mk.injEq] at h; obtain ⟨rfl, rfl⟩ := h; rfl
  · cases h

end

/-! ### From one abstract state to another one -/
def vre0 (pi : List (Int × Int)) (pb : List (Nat × Nat)) (keep : Nat → Bool) : Value → Value → Bool
  | .bool a, .bool b => a == b
  | .int k a, .int k' b => decide (k = k') && ((decide (a = b) && decide (a < TOK)) || pi.contains (a, b))
  | .pointer none, .pointer none => true
  | .slice none n c, .slice none n' c' => Nat.beq n 0 && Nat.beq c 0 && Nat.beq n' 0 && Nat.beq c' 0
  | .map none, .map none => true
  | .nilFunc, .nilFunc => true
  | .nilIface, .nilIface => true
  | .float .f64 a, .float .f64 b => pb.contains (a, b)
  | .pointer (some a), .pointer (some b) => Nat.beq a.block b.block && Nat.beq a.off b.off && a.spot.isNone && b.spot.isNone && keep a.block
  | .slice (some a) n c, .slice (some b) n' c' => Nat.beq a.block b.block && Nat.beq a.off b.off && a.spot.isNone && b.spot.isNone && keep a.block && Nat.beq n n' && Nat.beq c c'
  | .map (some a), .map (some b) => Nat.beq a b && keep a
  | .chan (some a), .chan (some b) => Nat.beq a b && keep a
  | _, _ => false

def vlB (r : Value → Value → Bool) (l l' : List Value) : Bool := Nat.beq l.length l'.length && (l.zip l').all fun p => r p.1 p.2

def vreB (pi : List (Int × Int)) (pb : List (Nat × Nat)) (keep : Nat → Bool) : Nat → Value → Value → Bool
  | 0, v, v' => vre0 pi pb keep v v'
  | d + 1, .func fn f c, .func fn' f' c' => decide (fn = fn') && vlB (vreB pi pb keep d) f.toList f'.toList && vlB (vreB pi pb keep d) c.toList c'.toList
  | d + 1, .iface t v, .iface t' v' => Nat.beq t t' && vreB pi pb keep d v v'
  | d + 1, .agg l, .agg l' => vlB (vreB pi pb keep d) l.toList l'.toList
  | d + 1, .tuple l, .tuple l' => vlB (vreB pi pb keep d) l.toList l'.toList
  | _ + 1, v, v' => vre0 pi pb keep v v'

section
variable {η η' : Env} {μ μ' : Mu} {pi : List (Int × Int)} {pb : List (Nat × Nat)} {keep : Nat → Bool}

theorem vre0_sound (hi : ∀ a b, (a, b) ∈ pi → dn η a = dn η' b) (hb : ∀ a b, (a, b) ∈ pb → decide (η.i a = 1) = decide (η'.i b = 1)) (hk : ∀ i p, keep i = true → μ i = some p → μ' i = some p) {v v' u : Value}
    (h : vre0 pi pb keep v v' = true) (hv : VR η μ v u) : VR η' μ' v' u := by
  unfold vre0 at h
  split at h
  · simp only [beq_iff_eq] at h; subst h; cases hv; exact .bool _
  · rename_i k a k' b
    simp only [Bool.and_eq_true, Bool.or_eq_true, decide_eq_true_eq] at h
    obtain ⟨rfl, h⟩ := h
    cases hv
    have e : dn η a = dn η' b := by
      rcases h with ⟨rfl, h⟩ | h
      · rw [dn_lt h, dn_lt h]
      · exact hi _ _ (by simpa using h)
    rw [e]
    exact .int k b
  · cases hv; exact .pnil
  · simp only [Bool.and_eq_true, beq_iff] at h; obtain ⟨⟨⟨rfl, rfl⟩, rfl⟩, rfl⟩ := h; cases hv; exact .snil
  · cases hv; exact .mnil
  · cases hv; exact .nfun
  · cases hv; exact .nifc
  · rename_i a b
    cases hv
    rw [hb a b (by simpa using h)]
    exact .btok b
  · rename_i a b
    obtain ⟨ab, ao, asp⟩ := a
    obtain ⟨bb, bo, bsp⟩ := b
    simp only [Bool.and_eq_true, beq_iff, Option.isNone_iff_eq_none] at h
    obtain ⟨⟨⟨⟨rfl, rfl⟩, rfl⟩, rfl⟩, h⟩ := h
    cases hv with
    | ptr hp => exact .ptr (hk _ _ h hp)
  · rename_i a n c b n' c'
    obtain ⟨ab, ao, asp⟩ := a
    obtain ⟨bb, bo, bsp⟩ := b
    simp only [Bool.and_eq_true, beq_iff, Option.isNone_iff_eq_none] at h
    obtain ⟨⟨⟨⟨⟨⟨rfl, rfl⟩, rfl⟩, rfl⟩, h⟩, rfl⟩, rfl⟩ := h
    cases hv with
    | sliceK hp hc => exact .sliceK (hk _ _ h hp) hc
    | sliceU hp h1 h2 h3 => exact .sliceU (hk _ _ h hp) h1 h2 h3
    | sliceE => exact .sliceE
  · simp only [Bool.and_eq_true, beq_iff] at h; obtain ⟨rfl, h⟩ := h; cases hv with | map hp => exact .map (hk _ _ h hp)
  · simp only [Bool.and_eq_true, beq_iff] at h; obtain ⟨rfl, h⟩ := h; cases hv with | vtok hp ho => exact .vtok (hk _ _ h hp) ho
  · cases h

theorem vlB_sound {r : Value → Value → Bool} (hr : ∀ v v' u, r v v' = true → VR η μ v u → VR η' μ' v' u) : ∀ (l l' m : List Value), vlB r l l' = true → VRs η μ l m → VRs η' μ' l' m := by
  intro l
  induction l with
  | nil =>
    intro l' m h hm
    cases hm
    cases l' with
    | nil => exact .nil
    | cons _ _ => simp [vlB, Nat.beq] at h
  | cons x l ihl =>
    intro l' m h hm
    cases l' with
    | nil => simp [vlB, Nat.beq] at h
    | cons x' l' =>
      cases hm with
      | cons h1 h2 =>
        simp only [vlB, List.length_cons, List.zip_cons_cons, List.all_cons, Bool.and_eq_true] at h
        exact .cons (hr _ _ _ h.2.1 h1) (ihl _ _ (by simp only [vlB, Bool.and_eq_true]; exact ⟨by have := h.1; rw [beq_iff] at this ⊢; omega, h.2.2⟩) h2)

theorem vreB_sound (hi : ∀ a b, (a, b) ∈ pi → dn η a = dn η' b) (hb : ∀ a b, (a, b) ∈ pb → decide (η.i a = 1) = decide (η'.i b = 1)) (hk : ∀ i p, keep i = true → μ i = some p → μ' i = some p) :
    ∀ (d : Nat) (v v' u : Value), vreB pi pb keep d v v' = true → VR η μ v u → VR η' μ' v' u := by
  intro d
  induction d with
  | zero => intro v v' u h hv; exact vre0_sound hi hb hk h hv
  | succ d ih =>
    intro v v' u h hv
    unfold vreB at h
    split at h
    · rename_i h0; cases h0
    · rename_i h0; cases h0
      simp only [Bool.and_eq_true, decide_eq_true_eq] at h
      obtain ⟨⟨rfl, h1⟩, h2⟩ := h
      cases hv with | func hf hc => exact .func (vlB_sound ih _ _ _ h1 hf) (vlB_sound ih _ _ _ h2 hc)
    · rename_i h0; cases h0
      simp only [Bool.and_eq_true, beq_iff] at h
      obtain ⟨rfl, h⟩ := h
      cases hv with | iface hv => exact .iface (ih _ _ _ h hv)
    · rename_i h0; cases h0
      cases hv with | agg hv => exact .agg (vlB_sound ih _ _ _ h hv)
    · rename_i h0; cases h0
      cases hv with | tuple hv => exact .tuple (vlB_sound ih _ _ _ h hv)
    · exact vre0_sound hi hb hk h hv

/-- A frame that says less. -/
def frB (pi : List (Int × Int)) (pb : List (Nat × Nat)) (keep : Nat → Bool) (f f' : HF) : Bool :=
  Nat.beq f.n f'.n && f.ds.isEmpty && f'.ds.isEmpty && (List.range f.n).all fun d => isHv (f'.get d) || (!isHv (f.get d) && vreB pi pb keep 8 (f.get d) (f'.get d))

theorem frB_sound (hi : ∀ a b, (a, b) ∈ pi → dn η a = dn η' b) (hb : ∀ a b, (a, b) ∈ pb → decide (η.i a = 1) = decide (η'.i b = 1)) (hk : ∀ i p, keep i = true → μ i = some p → μ' i = some p) {f f' : HF} {a : Act}
    (h : frB pi pb keep f f' = true) (ha : AR η μ f a) : AR η' μ' f' a := by
  unfold frB at h
  simp only [Bool.and_eq_true, beq_iff, List.isEmpty_iff] at h
  obtain ⟨⟨⟨h1, h2⟩, h3⟩, h4⟩ := h
  refine ⟨ha.size.trans h1, fun d hd hv => ?_, ?_⟩
  · rw [List.all_eq_true] at h4
    have := h4 d (List.mem_range.2 (by omega))
    rw [hv] at this
    simp only [Bool.false_or, Bool.and_eq_true, Bool.not_eq_true'] at this
    exact vreB_sound hi hb hk 8 _ _ _ this.2 (ha.vals d (by omega) this.1)
  · have := ha.ds
    rw [h2] at this
    rw [h3]
    generalize a.defers = l at this ⊢
    cases this
    exact .nil

end
end Go.Hx
