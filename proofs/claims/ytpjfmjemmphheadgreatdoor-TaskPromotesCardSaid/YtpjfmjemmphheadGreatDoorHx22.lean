/- Contracts on heaps; a call without arguments. -/
import Derived.Test.YtpjfmjemmphheadGreatDoorHx21
namespace Go.Hx
open Go Go.RowKit

section
variable {P : Program}

/-- A contract of slices.EqualFunc over objects, for the executor. -/
theorem con_eqf (hg : NoG P) {η : Env} {g cl ge : FuncId} {t tv : TypeId} (hty : slTy P t 2 = true) (htv : slTy P tv 2 = true) (hge : eqChk P ge tv [true, false] = true) (hchk : efChk P g cl ge t = true) {k1 k2 : Nat} {L1 L2 : List Ob} {b : Bool}
    (hk1 : ∀ x m w v, η.psi k1 x m w v → ∃ B, ObsF B w L1 v) (hk2 : ∀ x m w v, η.psi k2 x m w v → ∃ B, ObsF B w L2 v) (y1 : obTy L1) (y2 : obTy L2) (hn : L1.length ≤ maxLen) (hb : b = true ↔ L1 = L2) : Con.ok P η (.eqf g cl k1 k2 b) :=
  fun w v1 v2 b1 m1 b2 m2 _ h1 h2 =>
    let ⟨_, s1⟩ := hk1 _ _ _ _ h1
    let ⟨_, s2⟩ := hk2 _ _ _ _ h2
    obsEqual_con hg hty htv hge hchk s1 s2 y1 y2 hn b hb

def sameB (P : Program) (g gf cl : FuncId) (b : Bool) : Bool :=
  match hcall P (({} : Tab).fx P) 2 (conK [.eqf gf cl 0 1 b]) noD 4 g [.agg ⟨[.chan (some 0)]⟩, .agg ⟨[.chan (some 1)]⟩] (stR [(0, .tok 0), (1, .tok 1)] 2 0) with
  | some (.bool c, _) => b == c
  | _ => false

def twoM (v1 v2 : Value) : Mu := fun i => match i with
  | 0 => some (valPl v1)
  | 1 => some (valPl v2)
  | _ => none

theorem noTab_ok {η : Env} : TabOK P η {} :=
  ⟨fun e h => nomem h, fun _ _ _ h => nomem h, fun _ _ _ h => nomem h, fun _ _ _ h => nomem h, fun _ _ h => nomem h, fun _ _ _ _ h => nomem h, fun _ _ h => nomem h, fun _ _ _ h => nomem h⟩

/-- heap.Same. -/
theorem same_con (hg : NoG P) {g gf cl ge : FuncId} {t tv : TypeId} (hty : slTy P t 2 = true) (htv : slTy P tv 2 = true) (hge : eqChk P ge tv [true, false] = true) (hef : efChk P gf cl ge t = true) {b : Bool} (hchk : sameB P g gf cl b = true)
    {W : World} {v1 v2 : Value} {B1 B2 : Nat → Prop} {L1 L2 : List Ob} (h1 : ObsF B1 W L1 v1) (h2 : ObsF B2 W L2 v2) (y1 : obTy L1) (y2 : obTy L2) (hn : L1.length ≤ maxLen) (hb : b = true ↔ L1 = L2) :
    Calls P g ⟨[.agg #[v1], .agg #[v2]]⟩ W (BoolIs W b) := by
  have ho : ∀ {B : Nat → Prop} {L : List Ob} {v : Value}, ObsF B W L v → v.oneCell' = true := fun h => by
    obtain ⟨_, ⟨_, a, c, e, _⟩, _⟩ := h
    rw [e]; rfl
  let η := envD [] (twoM v1 v2) (fun g => g < W.heap.size) (fun k => if k = 0 then (false, .obs L1) else (false, .obs L2))
  have hR : R η (Base.of W) η.m (stR [(0, .tok 0), (1, .tok 1)] 2 0) W := by
    refine R.start (Below.refl _ _) (fun i hi => ?_) (fun g hg => hg) (fun g hg => absurd hg (Nat.not_lt_zero _)) (fun i o hio => ?_)
    · simp only [η, envD]
      unfold twoM
      split <;> first | omega | rfl
    · simp only [List.mem_cons, Prod.mk.injEq, List.not_mem_nil, or_false] at hio
      rcases hio with ⟨rfl, rfl⟩ | ⟨rfl, rfl⟩
      · refine ⟨_, rfl, .inr ⟨0, rfl, rfl, Nat.zero_le _, ?_⟩⟩
        simp only [η, envD, if_true, Dat.ok]
        exact h1.lt.mono fun g hg => .inl ⟨trivial, hg.2⟩
      · refine ⟨_, rfl, .inr ⟨1, rfl, rfl, Nat.zero_le _, ?_⟩⟩
        simp only [η, envD, Nat.one_ne_zero, if_false, Dat.ok]
        exact h2.lt.mono fun g hg => .inl ⟨trivial, hg.2⟩
  have hC : CallOK P η (conK [.eqf gf cl 0 1 b]) := by
    refine conK_ok _ fun c hc => ?_
    simp only [List.mem_singleton] at hc
    subst hc
    refine con_eqf hg hty htv hge hef (L1 := L1) (L2 := L2) (fun x m w v h => ?_) (fun x m w v h => ?_) y1 y2 hn hb
    · simp only [η, envD, if_true, Dat.ok] at h
      exact ⟨_, h⟩
    · simp only [η, envD, Nat.one_ne_zero, if_false, Dat.ok] at h
      exact ⟨_, h⟩
  unfold sameB at hchk
  split at hchk
  · rename_i c s' hc
    simp only [beq_iff_eq] at hchk
    subst hchk
    have har : VRs η η.m [.agg ⟨[.chan (some 0)]⟩, .agg ⟨[.chan (some 1)]⟩] [.agg #[v1], .agg #[v2]] :=
      .cons (.agg (.cons (VR.vtok (p := valPl v1) rfl (ho h1)) .nil)) (.cons (.agg (.cons (VR.vtok (p := valPl v2) rfl (ho h2)) .nil)) .nil)
    refine (hcall_sound (tab_ok noTab_ok) hg 2 hC noD_ok 4 (Base.of W) η.m _ s' W g _ _ _ hR har hc).mono fun e w' ⟨v', μ', k1, k2, k3, k4⟩ => ?_
    cases k4
    exact ⟨k1, k3.below⟩
  · cases hchk

theorem con_same (hg : NoG P) {η : Env} {g gf cl ge : FuncId} {t tv : TypeId} (hty : slTy P t 2 = true) (htv : slTy P tv 2 = true) (hge : eqChk P ge tv [true, false] = true) (hef : efChk P gf cl ge t = true) {b : Bool} (hchk : sameB P g gf cl b = true) {k1 k2 : Nat} {L1 L2 : List Ob}
    (hk1 : ∀ x m w v, η.psi k1 x m w v → ∃ B, ObsF B w L1 v) (hk2 : ∀ x m w v, η.psi k2 x m w v → ∃ B, ObsF B w L2 v) (y1 : obTy L1) (y2 : obTy L2) (hn : L1.length ≤ maxLen) (hb : b = true ↔ L1 = L2) : Con.ok P η (.eqw g k1 k2 b) :=
  fun w v1 v2 b1 m1 b2 m2 _ h1 h2 =>
    let ⟨_, s1⟩ := hk1 _ _ _ _ h1
    let ⟨_, s2⟩ := hk2 _ _ _ _ h2
    same_con hg hty htv hge hef hchk s1 s2 y1 y2 hn hb

/-- A contract of a copy of objects, for the executor. -/
theorem con_objs (hg : NoG P) {η : Env} {p : ObP} {bo bv ev : Nat} (hto : elTy P p.t p.e 2 bo = true) (hcons : p.cons = [] ∨ ∃ gc, p.cons = [.clone gc 0 1] ∧ CloneC P gc p.e 2 bo) (hv : CloneC P p.gv ev 2 bv) (hchk : obChk P p = true) {L : List Ob} (hsm : obSm bo bv L) {k k' : Nat}
    (hk : ∀ x m w v, η.psi k x m w v → ∃ B, ObsF B w L v) (hk' : ∀ x m w v, ObsF (fun g => x ≤ g ∧ g < x + m) w L v → η.psi k' x m w v) : Con.ok P η (.clone p.g k k') :=
  fun w v b m _ h =>
    let ⟨_, hs⟩ := hk _ _ _ _ h
    (objs_con hg hto hcons hv hchk hs hsm).mono fun e1 w' ⟨v', h1, h2, h3, h4⟩ => ⟨v', h1, h2, h3, hk' _ _ _ _ (h4.mono fun g hg => ⟨hg.1, by have := h3.size; have := hg.2; omega⟩)⟩

end
end Go.Hx
