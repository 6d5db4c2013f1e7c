/- Contracts on unknown slices of objects: comparisons (slices.EqualFunc with a closure that compares objects). -/
import Derived.Test.YtpjfmjemmphheadGreatDoorHx18
namespace Go.Hx
open Go Go.RowKit

def efF (n : Nat) (c : FuncId) : HF := mkF n [(0, .chan (some 0)), (1, .chan (some 1)), (2, .func (.func c) #[] #[]), (6, .bool false), (15, .chan (some 0)), (16, .int .i64 (tk 1)), (17, .int .i64 (tk 0))]
def efStep (t : TypeId) (ids : Bool) : Tab :=
  { fe := [⟨.lss, .i64, tk 0, tk 1, .bool true⟩, ⟨.add, .i64, tk 0, 1, .int .i64 (tk 2)⟩, ⟨.eql, .i64, tk 3, tk 4, .bool ids⟩], ixs := [(0, tk 0, t, 2), (1, tk 0, t, 3)] }
def efS0 : St := stR [] 6 0
def efS : St := stR [(2, .ro [.int .i64 (tk 3), .chan (some 4)]), (3, .ro [.int .i64 (tk 4), .chan (some 5)]), (4, .tok 0), (5, .tok 1)] 6 0

def efChk (P : Program) (g cl ge : FuncId) (t : TypeId) : Bool :=
  match parts P g 4 with
  | none => false
  | some E => match hArgs 0 [.chan (some 0), .chan (some 1), .func (.func cl) #[] #[]] .lf with
    | none => false
    | some a => retX P E.fn false (hlist P ((eqPre true).fx P) noK 2 E.pre efS0 ⟨a, 3 + (E.fn.ntmps - 3), []⟩) &&
      toHead [(tk 0, tk 1), (0, tk 0)] [] (fun i => Nat.blt i 2) (efF E.fn.ntmps cl) (hlist P ((eqPre false).fx P) noK 2 E.pre efS0 ⟨a, 3 + (E.fn.ntmps - 3), []⟩) &&
      toHead [(tk 1, tk 1), (tk 2, tk 0)] [] (fun i => Nat.blt i 2) (efF E.fn.ntmps cl) (hcode P ((efStep t true).fx P) (hcall P ((efStep t true).fx P) 2 (conK [.eq ge 0 1 true]) noD 3) 2 E.B efS (efF E.fn.ntmps cl)) &&
      retX P E.fn false (hcode P ((efStep t true).fx P) (hcall P ((efStep t true).fx P) 2 (conK [.eq ge 0 1 false]) noD 3) 2 E.B efS (efF E.fn.ntmps cl)) &&
      retX P E.fn false (hcode P ((efStep t false).fx P) (hcall P ((efStep t false).fx P) 2 noK noD 3) 2 E.B efS (efF E.fn.ntmps cl)) &&
      outX P (eqLast.fx P) noK 2 E.id E.post (isRet P E.fn true) (hcode P (eqLast.fx P) noK 2 E.B efS0 (efF E.fn.ntmps cl))

/-- The fields of the k-th object, as a value. -/
def fvOf (cells : List Value) (k : Nat) : Value := cells.getD (2 * k + 1) undef
def efM (v1 v2 : Value) (c1 c2 : List Value) (k : Nat) : Mu := fun i => match i with
  | 0 => some (valPl v1)
  | 1 => some (valPl v2)
  | 2 => some (elPl v1 2 k)
  | 3 => some (elPl v2 2 k)
  | 4 => some (valPl (fvOf c1 k))
  | 5 => some (valPl (fvOf c2 k))
  | _ => none
def obD (L : List Ob) (k : Nat) : Dat := match L[k]? with
  | some o => .flat 2 o.2.1 o.2.2
  | none => .flat 0 0 []
def obI (L : List Ob) (k : Nat) : Int := match L[k]? with
  | some o => o.1
  | none => 0
def efEnv (names : List Int) (W : World) (v1 v2 : Value) (c1 c2 : List Value) (L1 L2 : List Ob) (k : Nat) : Env :=
  envD names (efM v1 v2 c1 c2 k) (fun g => g < W.heap.size) (fun j => if j = 0 then (false, obD L1 k) else (false, obD L2 k))
def efNames (n k : Nat) (L1 L2 : List Ob) : List Int := [(k : Int), (n : Int), (k : Int) + 1, obI L1 k, obI L2 k]

/-- Objects whose fields are plain values; not too many. -/
def obTy (L : List Ob) : Prop := ∀ (k : Nat) (o : Ob), L[k]? = some o → tyL [true, false] o.2.2 ∧ o.2.1 ≤ maxLen

section
variable {P : Program} {W : World} {v1 v2 : Value} {B1 B2 : Nat → Prop} {c1 c2 : List Value} {L1 L2 : List Ob} {n k : Nat} {t : TypeId}

theorem ef_start0 {names : List Int} {w : World} (hw : Below W.heap.size W w) : R (efEnv names W v1 v2 c1 c2 L1 L2 k) (Base.of W) (efEnv names W v1 v2 c1 c2 L1 L2 k).m efS0 w :=
  R.start hw (fun i hi => by
    simp only [efEnv, envD]
    unfold efM
    split <;> first | omega | rfl) (fun g hg => hg) (fun g hg => absurd hg (Nat.not_lt_zero _)) fun i o hio => nomem hio

/-- What the cells of objects say of the k-th one. -/
def ObAt (B : Nat → Prop) (W : World) (cells : List Value) (L : List Ob) : Prop :=
  ∀ (i : Nat) (o : Ob), L[i]? = some o → cells[2 * i]? = some (.int .i64 o.1) ∧ ∃ fv, cells[2 * i + 1]? = some fv ∧ SlF B W 2 o.2.1 o.2.2 fv

theorem ObAt.fv {B : Nat → Prop} {cells : List Value} {L : List Ob} (h : ObAt B W cells L) {i : Nat} {o : Ob} (ho : L[i]? = some o) : cells[2 * i + 1]? = some (fvOf cells i) ∧ SlF B W 2 o.2.1 o.2.2 (fvOf cells i) := by
  obtain ⟨_, fv, h1, h2⟩ := h i o ho
  have e : fvOf cells i = fv := by simp [fvOf, List.getD, h1]
  rw [e]
  exact ⟨h1, h2⟩

theorem ef_row {names : List Int} {m : Mu} {old : Nat → Prop} {D : Nat → Bool × Dat} {B : Nat → Prop} {cells : List Value} {L : List Ob} {v : Value} {o : Ob} {w : World} (h : SlF B W 2 L.length cells v) (hA : ObAt B W cells L) (ho : L[k]? = some o) (hw : Below W.heap.size W w)
    {j r : Nat} (hj : names.getD j 0 = o.1) (hr : m r = some (valPl (fvOf cells k))) : ClR (envD names m old D) m [.int .i64 (tk j), .chan (some r)] (elPl v 2 k) w := by
  have hk : k < L.length := (List.getElem?_eq_some_iff.1 ho).1
  obtain ⟨g1, _, g3⟩ := h.elem hk (by decide)
  obtain ⟨a1, _⟩ := hA k o ho
  obtain ⟨b1, b2⟩ := hA.fv ho
  intro i a hi
  match i, hi with
  | 0, hi =>
    simp at hi
    subst hi
    obtain ⟨u, hu, hc⟩ := g3 0 (by decide)
    rw [Nat.add_zero, Nat.mul_comm, a1] at hu
    cases hu
    refine ⟨_, (below_cell hw g1).trans hc, ?_⟩
    have := VR.int (η := envD names m old D) (μ := m) .i64 (tk j)
    rwa [dn_tk, hj] at this
  | 1, hi =>
    simp at hi
    subst hi
    obtain ⟨u, hu, hc⟩ := g3 1 (by decide)
    rw [Nat.mul_comm, b1] at hu
    cases hu
    refine ⟨_, (below_cell hw g1).trans hc, VR.vtok (p := valPl (fvOf cells k)) hr ?_⟩
    obtain ⟨aa, cc, e⟩ := b2.len_val
    simp [valPl, e, Value.oneCell']
  | i + 2, hi => simp at hi

theorem ef_start (h1 : SlF B1 W 2 L1.length c1 v1) (h2 : SlF B2 W 2 L2.length c2 v2) (A1 : ObAt B1 W c1 L1) (A2 : ObAt B2 W c2 L2) {o1 o2 : Ob} (ho1 : L1[k]? = some o1) (ho2 : L2[k]? = some o2) {w : World} (hw : Below W.heap.size W w) :
    R (efEnv (efNames n k L1 L2) W v1 v2 c1 c2 L1 L2 k) (Base.of W) (efEnv (efNames n k L1 L2) W v1 v2 c1 c2 L1 L2 k).m efS w := by
  have hk1 : k < L1.length := (List.getElem?_eq_some_iff.1 ho1).1
  have hk2 : k < L2.length := (List.getElem?_eq_some_iff.1 ho2).1
  refine R.start hw (fun i hi => by
    simp only [efEnv, envD]
    unfold efM
    split <;> first | omega | rfl) (fun g hg => hg) (fun g hg => absurd hg (Nat.not_lt_zero _)) fun i o hio => ?_
  simp only [List.mem_cons, Prod.mk.injEq, List.not_mem_nil, or_false] at hio
  have hst : ∀ {B : Nat → Prop} {c : List Value} {L : List Ob} {o : Ob}, ObAt B W c L → L[k]? = some o → SlF (fun g => g < W.heap.size) w 2 o.2.1 o.2.2 (fvOf c k) := fun hA ho =>
    ((hA.fv ho).2.lt.mono fun g hg => hg.2).still fun g hg => hw.block g hg
  rcases hio with ⟨rfl, rfl⟩ | ⟨rfl, rfl⟩ | ⟨rfl, rfl⟩ | ⟨rfl, rfl⟩
  · exact ⟨_, rfl, .inl ⟨_, rfl, (h1.elem hk1 (by decide)).1, ef_row h1 A1 ho1 hw (by simp [efNames, obI, ho1]) rfl⟩⟩
  · exact ⟨_, rfl, .inl ⟨_, rfl, (h2.elem hk2 (by decide)).1, ef_row h2 A2 ho2 hw (by simp [efNames, obI, ho2]) rfl⟩⟩
  · refine ⟨_, rfl, .inr ⟨0, rfl, rfl, Nat.zero_le _, ?_⟩⟩
    simp only [efEnv, envD, if_true, obD, ho1, Dat.ok]
    exact (hst A1 ho1).mono fun g hg => .inl ⟨trivial, hg⟩
  · refine ⟨_, rfl, .inr ⟨1, rfl, rfl, Nat.zero_le _, ?_⟩⟩
    simp only [efEnv, envD, Nat.one_ne_zero, if_false, obD, ho2, Dat.ok]
    exact (hst A2 ho2).mono fun g hg => .inl ⟨trivial, hg⟩

theorem efStep_ok (hty : slTy P t 2 = true) (h1 : SlF B1 W 2 L1.length c1 v1) (h2 : SlF B2 W 2 L2.length c2 v2) (hn1 : L1.length = n) (hn2 : L2.length = n) (hn : n ≤ maxLen) {o1 o2 : Ob} (ho1 : L1[k]? = some o1) (ho2 : L2[k]? = some o2) (ids : Bool) (hid : (o1.1 == o2.1) = ids) :
    TabOK P (efEnv (efNames n k L1 L2) W v1 v2 c1 c2 L1 L2 k) (efStep t ids) := by
  obtain ⟨e, f, hu, hi, hfz⟩ := slTy_spec hty
  have hk : k < n := by rw [← hn1]; exact (List.getElem?_eq_some_iff.1 ho1).1
  have e0 : dn (efEnv (efNames n k L1 L2) W v1 v2 c1 c2 L1 L2 k) (tk 0) = k := by rw [efEnv, dn_tk]; rfl
  have e1 : dn (efEnv (efNames n k L1 L2) W v1 v2 c1 c2 L1 L2 k) (tk 1) = n := by rw [efEnv, dn_tk]; rfl
  have e2 : dn (efEnv (efNames n k L1 L2) W v1 v2 c1 c2 L1 L2 k) (tk 2) = (k : Int) + 1 := by rw [efEnv, dn_tk]; rfl
  have e3 : dn (efEnv (efNames n k L1 L2) W v1 v2 c1 c2 L1 L2 k) (tk 3) = o1.1 := by rw [efEnv, dn_tk]; simp [efNames, obI, ho1]
  have e4 : dn (efEnv (efNames n k L1 L2) W v1 v2 c1 c2 L1 L2 k) (tk 4) = o2.1 := by rw [efEnv, dn_tk]; simp [efNames, obI, ho2]
  have d1 : dn (efEnv (efNames n k L1 L2) W v1 v2 c1 c2 L1 L2 k) 1 = 1 := dn_lt (by decide)
  refine ⟨fun x hx => ?_, fun _ _ _ h => nomem h, fun a b r h => nomem h, fun a b r h => nomem h, fun _ _ h => nomem h, fun i m u r h => ?_, fun _ _ h => nomem h, fun _ _ _ h => nomem h⟩
  · simp only [efStep, List.mem_cons, List.not_mem_nil, or_false] at hx
    rcases hx with rfl | rfl | rfl
    · exact fe_lss (by rw [e0, e1]; simp; exact hk)
    · refine fe_add ?_
      rw [e0, d1, e2]
      exact i64_ok (by omega) (by unfold maxLen at hn; omega)
    · exact fe_eql (by rw [e3, e4]; exact hid)
  · simp only [efStep, List.mem_cons, Prod.mk.injEq, List.not_mem_nil, or_false] at h
    rcases h with ⟨rfl, rfl, rfl, rfl⟩ | ⟨rfl, rfl, rfl, rfl⟩
    · exact tab_ixs hu hi (p := valPl v1) (v := v1) rfl rfl hfz h1 (by decide) (by omega) e0 rfl rfl
    · exact tab_ixs hu hi (p := valPl v2) (v := v2) rfl rfl hfz h2 (by decide) (by omega) e0 rfl rfl

/-- A contract of slices.Equal, for the executor. -/
theorem con_eq (hg : NoG P) {η : Env} {g : FuncId} {pt : List Bool} (hpt : 0 < pt.length) (hpl : pt.length < 100) (hty : slTy P t pt.length = true) (hchk : eqChk P g t pt = true) {k1 k2 n1 n2 : Nat} {l1 l2 : List Value} {b : Bool}
    (hk1 : ∀ x m w v, η.psi k1 x m w v → ∃ B, SlF B w pt.length n1 l1 v) (hk2 : ∀ x m w v, η.psi k2 x m w v → ∃ B, SlF B w pt.length n2 l2 v) (y1 : tyL pt l1) (y2 : tyL pt l2) (hn : n1 ≤ maxLen) (hb : b = true ↔ l1 = l2) : Con.ok P η (.eq g k1 k2 b) :=
  fun w v1 v2 b1 m1 b2 m2 _ h1 h2 =>
    let ⟨_, s1⟩ := hk1 _ _ _ _ h1
    let ⟨_, s2⟩ := hk2 _ _ _ _ h2
    equal_con hg hpt hpl hty hchk s1 s2 y1 y2 hn b hb

theorem obsEqual_con (hg : NoG P) {g cl ge : FuncId} {tv : TypeId} (hty : slTy P t 2 = true) (htv : slTy P tv 2 = true) (hge : eqChk P ge tv [true, false] = true) (hchk : efChk P g cl ge t = true) (h1 : ObsF B1 W L1 v1) (h2 : ObsF B2 W L2 v2) (y1 : obTy L1) (y2 : obTy L2) (hn : L1.length ≤ maxLen)
    (b : Bool) (hb : b = true ↔ L1 = L2) : Calls P g ⟨[v1, v2, .func (.func cl) #[] #[]]⟩ W (BoolIs W b) := by
  obtain ⟨c1, s1, A1⟩ := h1
  obtain ⟨c2, s2, A2⟩ := h2
  have A1 : ObAt B1 W c1 L1 := A1
  have A2 : ObAt B2 W c2 L2 := A2
  unfold efChk at hchk
  split at hchk
  · cases hchk
  rename_i E hE
  split at hchk
  · cases hchk
  rename_i a0 ha0
  simp only [Bool.and_eq_true] at hchk
  obtain ⟨⟨⟨⟨⟨k1, k2⟩, k3⟩, k4⟩, k6⟩, k5⟩ := hchk
  obtain ⟨c, hf, hbd, hfl⟩ := parts_spec hE
  obtain ⟨a1, cc1, hv1⟩ := s1.len_val
  obtain ⟨a2, cc2, hv2⟩ := s2.len_val
  have ho1 : v1.oneCell' = true := by rw [hv1]; rfl
  have ho2 : v2.oneCell' = true := by rw [hv2]; rfl
  refine fn_run hf hbd ?_
  rw [hfl]
  have hR0 := ef_start0 (names := [(L1.length : Int), (L2.length : Int)]) (v1 := v1) (v2 := v2) (c1 := c1) (c2 := c2) (L1 := L1) (L2 := L2) (k := 0) (Below.refl W.heap.size W)
  have hA0 := enter_ar (η := efEnv [(L1.length : Int), (L2.length : Int)] W v1 v2 c1 c2 L1 L2 0) (μ := (efEnv [(L1.length : Int), (L2.length : Int)] W v1 v2 c1 c2 L1 L2 0).m) (args := [.chan (some 0), .chan (some 1), .func (.func cl) #[] #[]]) (args' := [v1, v2, .func (.func cl) #[] #[]])
    (.cons (VR.vtok (p := valPl v1) rfl ho1) (.cons (VR.vtok (p := valPl v2) rfl ho2) (.cons (.func .nil .nil) .nil))) ha0 E.fn.ntmps
  have hd0 : dn (efEnv [(L1.length : Int), (L2.length : Int)] W v1 v2 c1 c2 L1 L2 0) (tk 0) = L1.length := by rw [efEnv, dn_tk]; rfl
  have hd1 : dn (efEnv [(L1.length : Int), (L2.length : Int)] W v1 v2 c1 c2 L1 L2 0) (tk 1) = L2.length := by rw [efEnv, dn_tk]; rfl
  have hT0 : ∀ bb : Bool, (((L1.length : Int) != (L2.length : Int)) = bb) → TabOK P (efEnv [(L1.length : Int), (L2.length : Int)] W v1 v2 c1 c2 L1 L2 0) (eqPre bb) := fun bb hbb => by
    refine ⟨fun x hx => ?_, fun _ _ _ h => nomem h, fun _ _ _ h => nomem h, fun _ _ _ h => nomem h, fun i n h => ?_, fun _ _ _ _ h => nomem h, fun _ _ h => nomem h, fun _ _ _ h => nomem h⟩
    · simp only [eqPre, List.mem_singleton] at hx
      subst hx
      exact fe_neq (by rw [hd0, hd1]; exact hbb)
    · simp only [eqPre, List.mem_cons, Prod.mk.injEq, List.not_mem_nil, or_false] at h
      rcases h with ⟨rfl, rfl⟩ | ⟨rfl, rfl⟩
      · exact ⟨valPl v1, a1, L1.length, cc1, rfl, hv1, hd0.symm⟩
      · exact ⟨valPl v2, a2, L2.length, cc2, rfl, hv2, hd1.symm⟩
  by_cases hnn : L1.length = L2.length
  · obtain ⟨sx, f1, e1, hfr⟩ := toHead_spec k2
    refine seg (tab_ok (hT0 false (by simp [hnn]))) hg noK_ok 2 hR0 hA0 e1 fun μ' a' w' hle hR hA => ?_
    show (Code.block E.id (.loop E.B)).wp P _ a' w'
    refine wp_block ?_
    have hA' : AR (efEnv (efNames L1.length 0 L1 L2) W v1 v2 c1 c2 L1 L2 0) (efEnv (efNames L1.length 0 L1 L2) W v1 v2 c1 c2 L1 L2 0).m (efF E.fn.ntmps cl) a' := by
      refine frB_sound (fun a b hab => ?_) (fun a b hab => nomem hab) (fun i p hi hp => ?_) hfr hA
      · simp only [List.mem_cons, Prod.mk.injEq, List.not_mem_nil, or_false] at hab
        rcases hab with ⟨rfl, rfl⟩ | ⟨rfl, rfl⟩
        · rw [hd0, efEnv, dn_tk]; rfl
        · rw [dn_lt (by decide), efEnv, dn_tk]; rfl
      · have hi := blt_lt hi
        match i, hi with
        | 0, _ => have := hR.mle 0 (valPl v1) rfl; rw [hp] at this; cases this; rfl
        | 1, _ => have := hR.mle 1 (valPl v2) rfl; rw [hp] at this; cases this; rfl
    have hget : ∀ k, k < L1.length → ∃ o1 o2, L1[k]? = some o1 ∧ L2[k]? = some o2 := fun k hk => ⟨_, _, List.getElem?_eq_getElem hk, List.getElem?_eq_getElem (by omega)⟩
    have hcon : ∀ k, k < L1.length → ∀ o1 o2 : Ob, L1[k]? = some o1 → L2[k]? = some o2 → ∀ bb : Bool, (bb = true ↔ o1.2.2 = o2.2.2) → CallOK P (efEnv (efNames L1.length k L1 L2) W v1 v2 c1 c2 L1 L2 k) (conK [.eq ge 0 1 bb]) := fun k hk o1 o2 e1 e2 bb hbb => by
      refine conK_ok _ fun c hc => ?_
      simp only [List.mem_singleton] at hc
      subst hc
      refine con_eq hg (by decide) (by decide) htv hge (n1 := o1.2.1) (n2 := o2.2.1) (l1 := o1.2.2) (l2 := o2.2.2) (fun x m w v h => ?_) (fun x m w v h => ?_) (y1 k o1 e1).1 (y2 k o2 e2).1 (y1 k o1 e1).2 hbb
      · simp only [efEnv, envD, if_true, obD, e1, Dat.ok] at h
        exact ⟨_, h⟩
      · simp only [efEnv, envD, Nat.one_ne_zero, if_false, obD, e2, Dat.ok] at h
        exact ⟨_, h⟩
    have flds : ∀ (k : Nat) (o1 o2 : Ob), L1[k]? = some o1 → L2[k]? = some o2 → o1.2.2 = o2.2.2 → o1.2.1 = o2.2.1 := fun k o1 o2 e1 e2 he => by
      have q1 := (A1.fv e1).2.1
      have q2 := (A2.fv e2).2.1
      rw [he, q2] at q1
      omega
    have hstep : ∀ k, k < L1.length → L1[k]? = L2[k]? → ∀ a w, Below W.heap.size W w → AR (efEnv (efNames L1.length k L1 L2) W v1 v2 c1 c2 L1 L2 k) (efEnv (efNames L1.length k L1 L2) W v1 v2 c1 c2 L1 L2 k).m (efF E.fn.ntmps cl) a →
        ∀ Q, E.B.wp P (Exit.then (fun a' w' => (Base.of W).ok w' ∧ AR (efEnv (efNames L1.length (k + 1) L1 L2) W v1 v2 c1 c2 L1 L2 (k + 1)) (efEnv (efNames L1.length (k + 1) L1 L2) W v1 v2 c1 c2 L1 L2 (k + 1)).m (efF E.fn.ntmps cl) a') Q) a w := fun k hk hel a w hw ha Q => by
      obtain ⟨o1, o2, q1, q2⟩ := hget k hk
      have ho : o1 = o2 := by rw [q1, q2] at hel; exact Option.some.inj hel
      have htab := tab_ok (efStep_ok hty s1 s2 rfl hnn.symm hn q1 q2 true (by simp [ho]))
      refine run_head htab hg (hcall_sound htab hg 2 (hcon k hk o1 o2 q1 q2 true (by simp [ho])) noD_ok 3) (ef_start s1 s2 A1 A2 q1 q2 hw) ha k3 (fun a b hab => ?_) (fun a b hab => nomem hab) (fun i hi => ?_)
      · simp only [List.mem_cons, Prod.mk.injEq, List.not_mem_nil, or_false] at hab
        rcases hab with ⟨rfl, rfl⟩ | ⟨rfl, rfl⟩
        · rw [efEnv, efEnv, dn_tk, dn_tk]; rfl
        · rw [efEnv, efEnv, dn_tk, dn_tk]; simp [efNames]
      · have hi := blt_lt hi
        match i, hi with
        | 0, _ => exact ⟨nofun, rfl⟩
        | 1, _ => exact ⟨nofun, rfl⟩
    by_cases hall : ∀ k, k < L1.length → L1[k]? = L2[k]?
    · have heq : L1 = L2 := by
        apply List.ext_getElem?
        intro j
        by_cases hj : j < L1.length
        · exact hall j hj
        · rw [List.getElem?_eq_none (by omega), List.getElem?_eq_none (by omega)]
      have hbt : b = true := hb.2 heq
      subst hbt
      refine scan (efF E.fn.ntmps cl) L1.length (fun k => efEnv (efNames L1.length k L1 L2) W v1 v2 c1 c2 L1 L2 k) (fun k hk a w hw ha => hstep k hk (hall k hk) a w hw ha _) (fun a w hw ha => ?_) a' w' hR.below hA'
      refine run_out (tab_ok ?_) hg noK_ok (ef_start0 hw) ha k5
      refine ⟨fun x hx => ?_, fun _ _ _ h => nomem h, fun _ _ _ h => nomem h, fun _ _ _ h => nomem h, fun _ _ h => nomem h, fun _ _ _ _ h => nomem h, fun _ _ h => nomem h, fun _ _ _ h => nomem h⟩
      simp only [eqLast, List.mem_singleton] at hx
      subst hx
      refine fe_lss ?_
      rw [efEnv, dn_tk, dn_tk]
      simp [efNames]
    · have hex : ∃ k, k < L1.length ∧ ¬ L1[k]? = L2[k]? := by
        apply Classical.byContradiction
        intro hno
        exact hall fun k hk => Classical.byContradiction fun h => hno ⟨k, hk, h⟩
      have hmin : ∃ k, k < L1.length ∧ ¬ L1[k]? = L2[k]? ∧ ∀ m, m < k → L1[m]? = L2[m]? := by
        obtain ⟨k, hk⟩ := hex
        revert hk
        induction k using Nat.strongRecOn with
        | _ k ih =>
          intro hk
          by_cases hm : ∃ m, m < k ∧ ¬ L1[m]? = L2[m]?
          · obtain ⟨m, hm1, hm2⟩ := hm
            exact ih m hm1 ⟨by omega, hm2⟩
          · exact ⟨k, hk.1, hk.2, fun m hmk => Classical.byContradiction fun h => hm ⟨m, hmk, h⟩⟩
      obtain ⟨k0, hk0, hne, hbef⟩ := hmin
      have hbf : b = false := by
        cases b with
        | false => rfl
        | true => exact absurd (by rw [hb.1 rfl]) hne
      subst hbf
      obtain ⟨o1, o2, q1, q2⟩ := hget k0 hk0
      refine scan (efF E.fn.ntmps cl) k0 (fun k => efEnv (efNames L1.length k L1 L2) W v1 v2 c1 c2 L1 L2 k) (fun k hk a w hw ha => hstep k (by omega) (hbef k hk) a w hw ha _) (fun a w hw ha => ?_) a' w' hR.below hA'
      by_cases hid : o1.1 = o2.1
      · have hfl' : o1.2.2 ≠ o2.2.2 := fun he => hne (by rw [q1, q2]; exact congrArg some (Prod.ext hid (Prod.ext (flds k0 o1 o2 q1 q2 he) he)))
        have htab := tab_ok (efStep_ok hty s1 s2 rfl hnn.symm hn q1 q2 true (by simp [hid]))
        exact run_ret htab hg (hcall_sound htab hg 2 (hcon k0 hk0 o1 o2 q1 q2 false (by simp [hfl'])) noD_ok 3) (ef_start s1 s2 A1 A2 q1 q2 hw) ha k4
      · have htab := tab_ok (efStep_ok hty s1 s2 rfl hnn.symm hn q1 q2 false (by simp [hid]))
        exact run_ret htab hg (hcall_sound htab hg 2 noK_ok noD_ok 3) (ef_start s1 s2 A1 A2 q1 q2 hw) ha k6
  · have hbf : b = false := by
      cases b with
      | false => rfl
      | true => exact absurd (by rw [hb.1 rfl]) hnn
    subst hbf
    obtain ⟨sx, f1, e1, hd, hres⟩ := retX_spec k1
    exact seg (tab_ok (hT0 true (by simp; omega))) hg noK_ok 2 hR0 hA0 e1 fun μ' a' w' hle hR hA => bool_end (.inr rfl) hd hres hR hA

end
end Go.Hx
