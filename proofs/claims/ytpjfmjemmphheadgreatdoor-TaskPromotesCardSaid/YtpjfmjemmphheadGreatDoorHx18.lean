/- Contracts on unknown slices: comparisons of slices of plain cells. -/
import Derived.Test.YtpjfmjemmphheadGreatDoorHx17
namespace Go.Hx
open Go Go.RowKit

def tk (j : Nat) : Int := TOK + j

theorem dn_tk {l : List Int} {m : Mu} {old : Nat → Prop} {D : Nat → Bool × Dat} (j : Nat) : dn (envD l m old D) (tk j) = l.getD j 0 := dn_envD j

/-! ### Cells by a pattern: truth values and integers -/
def encV : Value → Int
  | .bool b => if b then 1 else 0
  | .int _ n => n
  | _ => 0

def cellB (b : Bool) (u : Value) : Prop := if b = true then ∃ c, u = .bool c else ∃ n, u = .int .i64 n
def tyL (pt : List Bool) (l : List Value) : Prop := ∀ (j : Nat) (u : Value), l[j]? = some u → cellB (pt.getD (j % pt.length) false) u

def absC1 (b : Bool) (j : Nat) : Value := if b then .float .f64 j else .int .i64 (tk j)
def absC (pt : List Bool) (t0 : Nat) : List Value := pt.zipIdx.map fun p => absC1 p.1 (t0 + p.2)

theorem absC_get {pt : List Bool} {t0 j : Nat} {v : Value} (h : (absC pt t0)[j]? = some v) : j < pt.length ∧ v = absC1 (pt.getD j false) (t0 + j) := by
  unfold absC at h
  simp only [List.getElem?_map, Option.map_eq_some_iff] at h
  obtain ⟨⟨b, i⟩, h1, h2⟩ := h
  rw [List.getElem?_zipIdx] at h1
  simp only [Option.map_eq_some_iff, Prod.mk.injEq] at h1
  obtain ⟨b', h3, rfl, rfl⟩ := h1
  have hlt := (List.getElem?_eq_some_iff.1 h3).1
  subst h2
  have e : pt[j] = b' := by rw [List.getElem?_eq_getElem hlt] at h3; exact Option.some.inj h3
  simp [List.getD, hlt, e]

theorem absC1_vr {l : List Int} {m : Mu} {old : Nat → Prop} {D : Nat → Bool × Dat} {μ : Mu} {b : Bool} {j : Nat} {u : Value} (hu : cellB b u) (hj : (j : Int) < TOK) (hl : l.getD j 0 = encV u) : VR (envD l m old D) μ (absC1 b j) u := by
  unfold cellB at hu
  unfold absC1
  cases b with
  | true =>
    obtain ⟨c, rfl⟩ := hu
    have h := VR.btok (η := envD l m old D) (μ := μ) j
    rw [bt_envD j hj, hl] at h
    simp only [if_true]
    have e : decide (encV (.bool c) = 1) = c := by cases c <;> simp [encV]
    rw [e] at h
    exact h
  | false =>
    obtain ⟨n, rfl⟩ := hu
    have h := VR.int (η := envD l m old D) (μ := μ) .i64 (tk j)
    rw [dn_tk, hl] at h
    exact h

/-! ### The elements of a slice -/
def adr : Value → Nat × Nat
  | .slice (some a) _ _ => (a.block, a.off)
  | _ => (0, 0)
def elPl (v : Value) (z k : Nat) : Place := ⟨(adr v).1, (adr v).2 + k * z, z, undef⟩
def valPl (v : Value) : Place := ⟨0, 0, 0, v⟩

theorem SlF.elem {B : Nat → Prop} {W : World} {z n k : Nat} {l : List Value} {v : Value} (h : SlF B W z n l v) (hk : k < n) (hz : 0 < z) :
    (adr v).1 < W.heap.size ∧ (∃ c, v = .slice (some ⟨(adr v).1, (adr v).2, none⟩) n c) ∧ ∀ j, j < z → ∃ u, l[k * z + j]? = some u ∧ W.cell? ⟨(adr v).1, (adr v).2 + k * z + j, none⟩ = some u := by
  have hlt := h.lt
  obtain ⟨h1, a, c, rfl, h3, h4⟩ := hlt
  have hkz : k * z + z ≤ n * z := by rw [← Nat.succ_mul]; exact Nat.mul_le_mul_right _ hk
  have hget : ∀ j, j < z → ∃ u, l[k * z + j]? = some u := fun j hj => ⟨_, List.getElem?_eq_getElem (by omega)⟩
  obtain ⟨u0, hu0⟩ := hget 0 hz
  obtain ⟨b, o, rfl, ⟨_, hb⟩, _⟩ := h4 _ _ hu0
  refine ⟨hb, ⟨c, rfl⟩, fun j hj => ?_⟩
  obtain ⟨u, hu⟩ := hget j hj
  obtain ⟨b', o', e, _, hc⟩ := h4 _ _ hu
  cases e
  exact ⟨u, hu, by simpa [adr, Nat.add_assoc] using hc⟩

theorem SlF.len_val {B : Nat → Prop} {W : World} {z n : Nat} {l : List Value} {v : Value} (h : SlF B W z n l v) : ∃ a c, v = .slice a n c := let ⟨_, a, c, e, _⟩ := h; ⟨a, c, e⟩

theorem below_cell {W w : World} (h : Below W.heap.size W w) {b o : Nat} (hb : b < W.heap.size) : w.cell? ⟨b, o, none⟩ = W.cell? ⟨b, o, none⟩ := h.cell (p := ⟨b, o, none⟩) hb

/-- An element's row. -/
theorem el_row {l : List Int} {m : Mu} {old : Nat → Prop} {D : Nat → Bool × Dat} {μ : Mu} {B : Nat → Prop} {W w : World} {n k t0 : Nat} {pt : List Bool} {c : List Value} {v : Value} (h : SlF B W pt.length n c v) (hk : k < n) (hz : 0 < pt.length)
    (hty : tyL pt c) (hw : Below W.heap.size W w) (hl : ∀ j, j < pt.length → ∀ u, c[k * pt.length + j]? = some u → l.getD (t0 + j) 0 = encV u) (ht : (t0 + pt.length : Nat) < 1000) : ClR (envD l m old D) μ (absC pt t0) (elPl v pt.length k) w := by
  obtain ⟨h1, _, h3⟩ := h.elem hk hz
  intro j a hj
  obtain ⟨hlt, rfl⟩ := absC_get hj
  obtain ⟨u, hu, hc⟩ := h3 j hlt
  refine ⟨u, (below_cell hw h1).trans hc, absC1_vr ?_ (by simp only [TOK]; omega) (hl j hlt u hu)⟩
  have := hty _ _ hu
  rwa [Nat.mul_add_mod_of_lt' hlt] at this
 where
  Nat.mul_add_mod_of_lt' {k z j : Nat} (h : j < z) : (k * z + j) % z = j := by
    rw [Nat.add_comm, Nat.add_mul_mod_self_right, Nat.mod_eq_of_lt h]

/-! ### Frames at a loop's head -/
def mkF (n : Nat) (vals : List (Nat × Value)) : HF := ⟨(hArgs 0 ((List.range n).map fun d => (lookL d vals).getD hvc) .lf).getD .lf, n, []⟩

/-! ### slices.Equal -/
def eqF (n : Nat) : HF := mkF n [(0, .chan (some 0)), (1, .chan (some 1)), (4, .bool false), (11, .chan (some 0)), (12, .int .i64 (tk 1)), (13, .int .i64 (tk 0))]

def eqPre (b : Bool) : Tab := { lens := [(0, tk 0), (1, tk 1)], fe := [⟨.neq, .i64, tk 0, tk 1, .bool b⟩] }
/-- (d: the place at which the elements part.) -/
def eqStep (pt : List Bool) (t : TypeId) (d : Option Nat) : Tab :=
  { fe := [⟨.lss, .i64, tk 0, tk 1, .bool true⟩, ⟨.add, .i64, tk 0, 1, .int .i64 (tk 2)⟩], ixs := [(0, tk 0, t, 2), (1, tk 0, t, 3)],
    eqi := match d with
      | none => (List.range pt.length).map fun j => (tk (3 + j), tk (3 + pt.length + j), true)
      | some j => [(tk (3 + j), tk (3 + pt.length + j), false)],
    eqb := match d with
      | none => (List.range pt.length).map fun j => (3 + j, 3 + pt.length + j, true)
      | some j => [(3 + j, 3 + pt.length + j, false)] }
/-- (Facts on integers for integers alone, on truth values for truth values alone.) -/
def eqStep' (pt : List Bool) (t : TypeId) (d : Option Nat) : Tab :=
  { eqStep pt t d with
    eqi := match d with
      | none => ((List.range pt.length).filter fun j => !pt.getD j false).map fun j => (tk (3 + j), tk (3 + pt.length + j), true)
      | some j => if pt.getD j false then [] else [(tk (3 + j), tk (3 + pt.length + j), false)],
    eqb := match d with
      | none => ((List.range pt.length).filter fun j => pt.getD j false).map fun j => (3 + j, 3 + pt.length + j, true)
      | some j => if pt.getD j false then [(3 + j, 3 + pt.length + j, false)] else [] }
def eqLast : Tab := { fe := [⟨.lss, .i64, tk 0, tk 1, .bool false⟩] }
def eqS0 : St := stR [] 4 0
def eqS (pt : List Bool) : St := stR [(2, .ro (absC pt 3)), (3, .ro (absC pt (3 + pt.length)))] 4 0

structure EqParts where
  fn : Func
  pre : List Code
  id : Nat
  B : Code
  post : List Code

/-- The pieces of a function whose loop stands at place i. -/
def parts (P : Program) (g : FuncId) (i : Nat) : Option EqParts :=
  match P.funcs[g]? with
  | some fn => match fn.body with
    | some c => match (flatC c)[i]? with
      | some x => match loopB x with
        | some (id, B) => some ⟨fn, (flatC c).take i, id, B, (flatC c).drop (i + 1)⟩
        | none => none
      | none => none
    | none => none
  | none => none

theorem parts_spec {P : Program} {g : FuncId} {i : Nat} {E : EqParts} (h : parts P g i = some E) : ∃ c, P.funcs[g]? = some E.fn ∧ E.fn.body = some c ∧ flatC c = E.pre ++ (Code.block E.id (.loop E.B) :: E.post) := by
  unfold parts at h
  split at h
  · rename_i fn hf
    split at h
    · rename_i c hc
      split at h
      · rename_i x hx
        split at h
        · rename_i id B hl
          cases h
          refine ⟨c, hf, hc, ?_⟩
          simp only
          rw [← loopB_eq hl]
          obtain ⟨hlt, hx'⟩ := List.getElem?_eq_some_iff.1 hx
          conv => lhs; rw [← List.take_append_drop i (flatC c), List.drop_eq_getElem_cons hlt, hx']
        · cases h
      · cases h
    · cases h
  · cases h

def eqChk (P : Program) (g : FuncId) (t : TypeId) (pt : List Bool) : Bool :=
  match parts P g 4 with
  | none => false
  | some E => match hArgs 0 [.chan (some 0), .chan (some 1)] .lf with
    | none => false
    | some a => retX P E.fn false (hlist P ((eqPre true).fx P) noK 2 E.pre eqS0 ⟨a, 2 + (E.fn.ntmps - 2), []⟩) &&
      toHead [(tk 0, tk 1), (0, tk 0)] [] (fun i => Nat.blt i 2) (eqF E.fn.ntmps) (hlist P ((eqPre false).fx P) noK 2 E.pre eqS0 ⟨a, 2 + (E.fn.ntmps - 2), []⟩) &&
      toHead [(tk 1, tk 1), (tk 2, tk 0)] [] (fun i => Nat.blt i 2) (eqF E.fn.ntmps) (hcode P ((eqStep' pt t none).fx P) noK 2 E.B (eqS pt) (eqF E.fn.ntmps)) &&
      ((List.range pt.length).all fun j => retX P E.fn false (hcode P ((eqStep' pt t (some j)).fx P) noK 2 E.B (eqS pt) (eqF E.fn.ntmps))) &&
      outX P (eqLast.fx P) noK 2 E.id E.post (isRet P E.fn true) (hcode P (eqLast.fx P) noK 2 E.B eqS0 (eqF E.fn.ntmps))

def slTy (P : Program) (t : TypeId) (z : Nat) : Bool :=
  match P.underlying t with
  | some (.slice e) => match P.info? e with
    | some f => Nat.beq f.size z
    | none => false
  | _ => false
theorem slTy_spec {P : Program} {t : TypeId} {z : Nat} (h : slTy P t z = true) : ∃ e f, P.underlying t = some (.slice e) ∧ P.info? e = some f ∧ f.size = z := by
  unfold slTy at h
  split at h
  · rename_i e he
    split at h
    · rename_i f hf
      exact ⟨e, f, he, hf, (beq_iff _ _).1 h⟩
    · cases h
  · cases h

/-- The names and places of one round. -/
def eqM (v1 v2 : Value) (z k : Nat) : Mu := fun i => match i with
  | 0 => some (valPl v1)
  | 1 => some (valPl v2)
  | 2 => some (elPl v1 z k)
  | 3 => some (elPl v2 z k)
  | _ => none
def eqNames (z n k : Nat) (l1 l2 : List Value) : List Int := [(k : Int), (n : Int), (k : Int) + 1] ++ (((l1.drop (k * z)).take z).map encV ++ ((l2.drop (k * z)).take z).map encV)

theorem eqNames_1 {z n k : Nat} {l1 l2 : List Value} {j : Nat} {u : Value} (hj : j < z) (hu : l1[k * z + j]? = some u) : (eqNames z n k l1 l2).getD (3 + j) 0 = encV u := by
  unfold eqNames
  have hlt := (List.getElem?_eq_some_iff.1 hu).1
  have h1 : (((l1.drop (k * z)).take z).map encV)[j]? = some (encV u) := by
    rw [List.getElem?_map, List.getElem?_take, if_pos hj, List.getElem?_drop, hu]; rfl
  have hl : j < (((l1.drop (k * z)).take z).map encV).length := (List.getElem?_eq_some_iff.1 h1).1
  rw [List.getD_eq_getElem?_getD, List.getElem?_append_right (by simp), show 3 + j - [(k : Int), (n : Int), (k : Int) + 1].length = j by simp, List.getElem?_append_left hl, h1]
  rfl

theorem eqNames_2 {z n k : Nat} {l1 l2 : List Value} {j : Nat} {u : Value} (hj : j < z) (h1 : k * z + z ≤ l1.length) (hu : l2[k * z + j]? = some u) : (eqNames z n k l1 l2).getD (3 + z + j) 0 = encV u := by
  unfold eqNames
  have hl1 : (((l1.drop (k * z)).take z).map encV).length = z := by simp; omega
  have h2 : (((l2.drop (k * z)).take z).map encV)[j]? = some (encV u) := by
    rw [List.getElem?_map, List.getElem?_take, if_pos hj, List.getElem?_drop, hu]; rfl
  rw [List.getD_eq_getElem?_getD, List.getElem?_append_right (by simp; omega), show 3 + z + j - [(k : Int), (n : Int), (k : Int) + 1].length = z + j by simp; omega, List.getElem?_append_right (by omega), hl1, show z + j - z = j by omega, h2]
  rfl

theorem encV_inj {b : Bool} {u v : Value} (hu : cellB b u) (hv : cellB b v) (h : encV u = encV v) : u = v := by
  unfold cellB at hu hv
  cases b with
  | true =>
    obtain ⟨c, rfl⟩ := hu
    obtain ⟨d, rfl⟩ := hv
    cases c <;> cases d <;> simp [encV] at h <;> rfl
  | false =>
    obtain ⟨c, rfl⟩ := hu
    obtain ⟨d, rfl⟩ := hv
    simp only [encV] at h
    rw [h]

theorem encV_bool {u : Value} (hu : cellB true u) : encV u = 0 ∨ encV u = 1 := by
  obtain ⟨c, rfl⟩ := hu
  cases c <;> simp [encV]

section
variable {P : Program}

theorem i64_ok {x : Int} (h0 : 0 ≤ x) (h1 : x ≤ 9223372036854775807) : IntKind.i64.wrap x = x := by
  simp only [IntKind.wrap, IntKind.bits, IntKind.signed]
  simp
  omega

/-- One round's env, whatever the names. -/
def eqEnv0 (names : List Int) (v1 v2 : Value) (z k : Nat) : Env := envD names (eqM v1 v2 z k) (fun _ => False) (fun _ => (false, .flat 0 0 []))

theorem eqStart {names : List Int} {v1 v2 : Value} {z k : Nat} {W w : World} {rows : List (Nat × HObj)} (hw : Below W.heap.size W w)
    (hr : ∀ i o, (i, o) ∈ rows → ∃ p, eqM v1 v2 z k i = some p ∧ ∃ c, o = .ro c ∧ p.blk < W.heap.size ∧ ClR (eqEnv0 names v1 v2 z k) (eqM v1 v2 z k) c p w) :
    R (eqEnv0 names v1 v2 z k) (Base.of W) (eqEnv0 names v1 v2 z k).m (stR rows 4 0) w :=
  R.start hw (fun i hi => by
    simp only [eqEnv0, envD]
    unfold eqM
    split <;> first | omega | rfl) (fun g hg => hg.elim) (fun g hg => absurd hg (Nat.not_lt_zero _)) fun i o hio =>
      let ⟨p, h1, c, h2, h3, h4⟩ := hr i o hio
      ⟨p, h1, .inl ⟨c, h2, h3, h4⟩⟩

theorem tab_ixs {η : Env} {i r : Nat} {n : Int} {t : TypeId} {p q : Place} {e : TypeId} {f : TypeInfo} {B : Nat → Prop} {W : World} {L k : Nat} {l : List Value} {v : Value} (hu : P.underlying t = some (.slice e)) (hi : P.info? e = some f) (hp : η.m i = some p) (hpv : p.val = v)
    {z : Nat} (hfz : f.size = z) (hs : SlF B W z L l v) (hz : 0 < z) (hk : k < L) (hn : dn η n = k) (hq : η.m r = some q) (hqe : q = elPl v z k) :
    ∃ p q b off L c e f, P.underlying t = some (.slice e) ∧ P.info? e = some f ∧ η.m i = some p ∧ p.val = .slice (some ⟨b, off, none⟩) L c ∧ η.m r = some q ∧ q.blk = b ∧ 0 ≤ dn η n ∧ dn η n < L ∧ q.base = off + (dn η n).toNat * f.size := by
  subst hfz
  obtain ⟨_, ⟨c, hv⟩, _⟩ := hs.elem hk hz
  refine ⟨p, q, (adr v).1, (adr v).2, L, c, e, f, hu, hi, hp, by rw [hpv]; exact hv, hq, by rw [hqe]; rfl, by rw [hn]; omega, by rw [hn]; omega, ?_⟩
  rw [hqe, hn]
  simp [elPl]

section eq
variable {t : TypeId} {pt : List Bool} {W : World} {v1 v2 : Value} {B1 B2 : Nat → Prop} {n k : Nat} {l1 l2 : List Value}

def elemEq (z k : Nat) (l1 l2 : List Value) : Prop := ∀ j, j < z → l1[k * z + j]? = l2[k * z + j]?

theorem eqStep_ok (hpt : 0 < pt.length) (hpl : pt.length < 100) (hty : slTy P t pt.length = true) (h1 : SlF B1 W pt.length n l1 v1) (h2 : SlF B2 W pt.length n l2 v2) (y1 : tyL pt l1) (y2 : tyL pt l2) (hn : n ≤ maxLen) (hk : k < n) (d : Option Nat)
    (hd : match d with | none => elemEq pt.length k l1 l2 | some j => j < pt.length ∧ l1[k * pt.length + j]? ≠ l2[k * pt.length + j]?) : TabOK P (eqEnv0 (eqNames pt.length n k l1 l2) v1 v2 pt.length k) (eqStep' pt t d) := by
  obtain ⟨e, f, hu, hi, hfz⟩ := slTy_spec hty
  have hl1 : k * pt.length + pt.length ≤ l1.length := by rw [h1.1, ← Nat.succ_mul]; exact Nat.mul_le_mul_right _ hk
  have hl2 : k * pt.length + pt.length ≤ l2.length := by rw [h2.1, ← Nat.succ_mul]; exact Nat.mul_le_mul_right _ hk
  have g1 : ∀ j, j < pt.length → ∃ u, l1[k * pt.length + j]? = some u := fun j hj => ⟨_, List.getElem?_eq_getElem (by omega)⟩
  have g2 : ∀ j, j < pt.length → ∃ u, l2[k * pt.length + j]? = some u := fun j hj => ⟨_, List.getElem?_eq_getElem (by omega)⟩
  have hmod : ∀ j, j < pt.length → (k * pt.length + j) % pt.length = j := fun j hj => by rw [Nat.add_comm, Nat.add_mul_mod_self_right, Nat.mod_eq_of_lt hj]
  have c1 : ∀ j, j < pt.length → ∀ u, l1[k * pt.length + j]? = some u → cellB (pt.getD j false) u := fun j hj u hu => by have := y1 _ _ hu; rwa [hmod j hj] at this
  have c2 : ∀ j, j < pt.length → ∀ u, l2[k * pt.length + j]? = some u → cellB (pt.getD j false) u := fun j hj u hu => by have := y2 _ _ hu; rwa [hmod j hj] at this
  have hk0 : dn (eqEnv0 (eqNames pt.length n k l1 l2) v1 v2 pt.length k) (tk 0) = k := by rw [eqEnv0, dn_tk]; rfl
  have hk1 : dn (eqEnv0 (eqNames pt.length n k l1 l2) v1 v2 pt.length k) (tk 1) = n := by rw [eqEnv0, dn_tk]; rfl
  have hk2 : dn (eqEnv0 (eqNames pt.length n k l1 l2) v1 v2 pt.length k) (tk 2) = (k : Int) + 1 := by rw [eqEnv0, dn_tk]; rfl
  have hd1 : dn (eqEnv0 (eqNames pt.length n k l1 l2) v1 v2 pt.length k) 1 = 1 := dn_lt (by decide)
  refine ⟨fun x hx => ?_, fun _ _ _ h => nomem h, fun a b r h => ?_, fun a b r h => ?_, fun _ _ h => nomem h, fun i m u r h => ?_, fun _ _ h => nomem h, fun _ _ _ h => nomem h⟩
  · simp only [eqStep', eqStep, List.mem_cons, List.not_mem_nil, or_false] at hx
    rcases hx with rfl | rfl
    · exact fe_lss (by rw [hk0, hk1]; simp; exact hk)
    · refine fe_add ?_
      rw [hk0, hd1, hk2]
      exact i64_ok (by omega) (by unfold maxLen at hn; omega)
  · have key : ∀ j, j < pt.length → pt.getD j false = false → ∃ u1 u2, l1[k * pt.length + j]? = some u1 ∧ l2[k * pt.length + j]? = some u2 ∧ (dn (eqEnv0 (eqNames pt.length n k l1 l2) v1 v2 pt.length k) (tk (3 + j)) == dn (eqEnv0 (eqNames pt.length n k l1 l2) v1 v2 pt.length k) (tk (3 + pt.length + j))) = (encV u1 == encV u2) := fun j hj _ => by
      obtain ⟨u1, hu1⟩ := g1 j hj
      obtain ⟨u2, hu2⟩ := g2 j hj
      refine ⟨u1, u2, hu1, hu2, ?_⟩
      rw [eqEnv0, dn_tk, dn_tk, eqNames_1 hj hu1, eqNames_2 hj hl1 hu2]
    cases d with
    | none =>
      simp only [eqStep', List.mem_map, List.mem_filter, List.mem_range, Prod.mk.injEq, Bool.not_eq_true'] at h
      obtain ⟨j, ⟨hj, hp⟩, rfl, rfl, rfl⟩ := h
      obtain ⟨u1, u2, hu1, hu2, e⟩ := key j hj hp
      have := hd j hj
      rw [hu1, hu2] at this
      cases this
      rw [e]; simp
    | some j =>
      simp only [eqStep'] at h
      split at h
      · cases h
      · rename_i hp
        simp only [List.mem_singleton, Prod.mk.injEq] at h
        obtain ⟨rfl, rfl, rfl⟩ := h
        obtain ⟨hj, hne⟩ := hd
        have hp : pt.getD j false = false := by simpa using hp
        obtain ⟨u1, u2, hu1, hu2, e⟩ := key j hj hp
        rw [e]
        simp only [beq_eq_false_iff_ne]
        intro he
        exact hne (by rw [hu1, hu2, encV_inj (c1 j hj _ hu1) (c2 j hj _ hu2) he])
  · have key : ∀ j, j < pt.length → pt.getD j false = true → ∃ u1 u2, l1[k * pt.length + j]? = some u1 ∧ l2[k * pt.length + j]? = some u2 ∧
        (decide ((eqEnv0 (eqNames pt.length n k l1 l2) v1 v2 pt.length k).i ((3 + j : Nat) : Int) = 1) == decide ((eqEnv0 (eqNames pt.length n k l1 l2) v1 v2 pt.length k).i ((3 + pt.length + j : Nat) : Int) = 1)) = (decide (encV u1 = 1) == decide (encV u2 = 1)) := fun j hj _ => by
      obtain ⟨u1, hu1⟩ := g1 j hj
      obtain ⟨u2, hu2⟩ := g2 j hj
      refine ⟨u1, u2, hu1, hu2, ?_⟩
      rw [eqEnv0, bt_envD (3 + j) (by simp only [TOK]; omega), bt_envD (3 + pt.length + j) (by simp only [TOK]; omega), eqNames_1 hj hu1, eqNames_2 hj hl1 hu2]
    cases d with
    | none =>
      simp only [eqStep', List.mem_map, List.mem_filter, List.mem_range, Prod.mk.injEq] at h
      obtain ⟨j, ⟨hj, hp⟩, rfl, rfl, rfl⟩ := h
      obtain ⟨u1, u2, hu1, hu2, e⟩ := key j hj hp
      have := hd j hj
      rw [hu1, hu2] at this
      cases this
      rw [e]; simp
    | some j =>
      simp only [eqStep'] at h
      split at h
      · rename_i hp
        simp only [List.mem_singleton, Prod.mk.injEq] at h
        obtain ⟨rfl, rfl, rfl⟩ := h
        obtain ⟨hj, hne⟩ := hd
        obtain ⟨u1, u2, hu1, hu2, e⟩ := key j hj hp
        rw [e]
        have e1 := c1 j hj _ hu1
        have e2 := c2 j hj _ hu2
        rw [hp] at e1 e2
        have hne' : encV u1 ≠ encV u2 := fun he => hne (by rw [hu1, hu2, encV_inj e1 e2 he])
        rcases encV_bool e1 with h1 | h1 <;> rcases encV_bool e2 with h2 | h2 <;> rw [h1, h2] at hne' ⊢ <;> first | exact absurd rfl hne' | rfl
      · cases h
  · simp only [eqStep', eqStep, List.mem_cons, Prod.mk.injEq, List.not_mem_nil, or_false] at h
    rcases h with ⟨rfl, rfl, rfl, rfl⟩ | ⟨rfl, rfl, rfl, rfl⟩
    · exact tab_ixs hu hi (p := valPl v1) (v := v1) rfl rfl hfz h1 hpt hk hk0 rfl rfl
    · exact tab_ixs hu hi (p := valPl v2) (v := v2) rfl rfl hfz h2 hpt hk hk0 rfl rfl

theorem eqS_start (hpt : 0 < pt.length) (hpl : pt.length < 100) (h1 : SlF B1 W pt.length n l1 v1) (h2 : SlF B2 W pt.length n l2 v2) (y1 : tyL pt l1) (y2 : tyL pt l2) (hk : k < n) {w : World} (hw : Below W.heap.size W w) :
    R (eqEnv0 (eqNames pt.length n k l1 l2) v1 v2 pt.length k) (Base.of W) (eqEnv0 (eqNames pt.length n k l1 l2) v1 v2 pt.length k).m (eqS pt) w := by
  have hl1 : k * pt.length + pt.length ≤ l1.length := by rw [h1.1, ← Nat.succ_mul]; exact Nat.mul_le_mul_right _ hk
  refine eqStart hw fun i o hio => ?_
  simp only [List.mem_cons, Prod.mk.injEq, List.not_mem_nil, or_false] at hio
  rcases hio with ⟨rfl, rfl⟩ | ⟨rfl, rfl⟩
  · exact ⟨_, rfl, _, rfl, (h1.elem hk hpt).1, el_row h1 hk hpt y1 hw (fun j hj u hu => eqNames_1 hj hu) (by omega)⟩
  · exact ⟨_, rfl, _, rfl, (h2.elem hk hpt).1, el_row h2 hk hpt y2 hw (fun j hj u hu => eqNames_2 hj hl1 hu) (by omega)⟩

end eq

theorem equal_con (hg : NoG P) {g : FuncId} {t : TypeId} {pt : List Bool} (hpt : 0 < pt.length) (hpl : pt.length < 100) (hty : slTy P t pt.length = true) (hchk : eqChk P g t pt = true) {W : World} {v1 v2 : Value} {B1 B2 : Nat → Prop} {n1 n2 : Nat} {l1 l2 : List Value}
    (h1 : SlF B1 W pt.length n1 l1 v1) (h2 : SlF B2 W pt.length n2 l2 v2) (y1 : tyL pt l1) (y2 : tyL pt l2) (hn : n1 ≤ maxLen) (b : Bool) (hb : b = true ↔ l1 = l2) : Calls P g ⟨[v1, v2]⟩ W (BoolIs W b) := by
  unfold eqChk at hchk
  split at hchk
  · cases hchk
  rename_i E hE
  split at hchk
  · cases hchk
  rename_i a0 ha0
  simp only [Bool.and_eq_true] at hchk
  obtain ⟨⟨⟨⟨k1, k2⟩, k3⟩, k4⟩, k5⟩ := hchk
  obtain ⟨c, hf, hbd, hfl⟩ := parts_spec hE
  obtain ⟨a1, cc1, hv1⟩ := h1.len_val
  obtain ⟨a2, cc2, hv2⟩ := h2.len_val
  have ho1 : v1.oneCell' = true := by rw [hv1]; rfl
  have ho2 : v2.oneCell' = true := by rw [hv2]; rfl
  refine fn_run hf hbd ?_
  rw [hfl]
  -- the way to the loop
  have hR0 : R (eqEnv0 [(n1 : Int), (n2 : Int)] v1 v2 pt.length 0) (Base.of W) (eqEnv0 [(n1 : Int), (n2 : Int)] v1 v2 pt.length 0).m eqS0 W := eqStart (Below.refl _ _) (fun i o hio => nomem hio)
  have hA0 := enter_ar (η := eqEnv0 [(n1 : Int), (n2 : Int)] v1 v2 pt.length 0) (μ := (eqEnv0 [(n1 : Int), (n2 : Int)] v1 v2 pt.length 0).m) (args := [.chan (some 0), .chan (some 1)]) (args' := [v1, v2])
    (.cons (VR.vtok (p := valPl v1) rfl ho1) (.cons (VR.vtok (p := valPl v2) rfl ho2) .nil)) ha0 E.fn.ntmps
  have hd0 : dn (eqEnv0 [(n1 : Int), (n2 : Int)] v1 v2 pt.length 0) (tk 0) = n1 := by rw [eqEnv0, dn_tk]; rfl
  have hd1 : dn (eqEnv0 [(n1 : Int), (n2 : Int)] v1 v2 pt.length 0) (tk 1) = n2 := by rw [eqEnv0, dn_tk]; rfl
  have hT0 : ∀ bb : Bool, (((n1 : Int) != (n2 : Int)) = bb) → TabOK P (eqEnv0 [(n1 : Int), (n2 : Int)] v1 v2 pt.length 0) (eqPre bb) := fun bb hbb => by
    refine ⟨fun x hx => ?_, fun _ _ _ h => nomem h, fun _ _ _ h => nomem h, fun _ _ _ h => nomem h, fun i n h => ?_, fun _ _ _ _ h => nomem h, fun _ _ h => nomem h, fun _ _ _ h => nomem h⟩
    · simp only [eqPre, List.mem_singleton] at hx
      subst hx
      exact fe_neq (by rw [hd0, hd1]; exact hbb)
    · simp only [eqPre, List.mem_cons, Prod.mk.injEq, List.not_mem_nil, or_false] at h
      rcases h with ⟨rfl, rfl⟩ | ⟨rfl, rfl⟩
      · exact ⟨valPl v1, a1, n1, cc1, rfl, hv1, hd0.symm⟩
      · exact ⟨valPl v2, a2, n2, cc2, rfl, hv2, hd1.symm⟩
  by_cases hnn : n1 = n2
  · subst hnn
    obtain ⟨s1, f1, e1, hfr⟩ := toHead_spec k2
    refine seg (tab_ok (hT0 false (by simp))) hg noK_ok 2 hR0 hA0 e1 fun μ' a' w' hle hR hA => ?_
    show (Code.block E.id (.loop E.B)).wp P _ a' w'
    refine wp_block ?_
    have hA' : AR (eqEnv0 (eqNames pt.length n1 0 l1 l2) v1 v2 pt.length 0) (eqEnv0 (eqNames pt.length n1 0 l1 l2) v1 v2 pt.length 0).m (eqF E.fn.ntmps) a' := by
      refine frB_sound (fun a b hab => ?_) (fun a b hab => nomem hab) (fun i p hi hp => ?_) hfr hA
      · simp only [List.mem_cons, Prod.mk.injEq, List.not_mem_nil, or_false] at hab
        rcases hab with ⟨rfl, rfl⟩ | ⟨rfl, rfl⟩
        · rw [hd0, eqEnv0, dn_tk]; rfl
        · rw [dn_lt (by decide), eqEnv0, dn_tk]; rfl
      · have hi := blt_lt hi
        have := hR.mle i
        match i, hi with
        | 0, _ => have := hR.mle 0 (valPl v1) rfl; rw [hp] at this; cases this; rfl
        | 1, _ => have := hR.mle 1 (valPl v2) rfl; rw [hp] at this; cases this; rfl
    have hstep : ∀ k, k < n1 → elemEq pt.length k l1 l2 → ∀ a w, Below W.heap.size W w → AR (eqEnv0 (eqNames pt.length n1 k l1 l2) v1 v2 pt.length k) (eqEnv0 (eqNames pt.length n1 k l1 l2) v1 v2 pt.length k).m (eqF E.fn.ntmps) a →
        ∀ Q, E.B.wp P (Exit.then (fun a' w' => (Base.of W).ok w' ∧ AR (eqEnv0 (eqNames pt.length n1 (k + 1) l1 l2) v1 v2 pt.length (k + 1)) (eqEnv0 (eqNames pt.length n1 (k + 1) l1 l2) v1 v2 pt.length (k + 1)).m (eqF E.fn.ntmps) a') Q) a w := fun k hk hel a w hw ha Q => by
      refine run_head (tab_ok (eqStep_ok hpt hpl hty h1 h2 y1 y2 hn hk none hel)) hg noK_ok (eqS_start hpt hpl h1 h2 y1 y2 hk hw) ha k3 (fun a b hab => ?_) (fun a b hab => nomem hab) (fun i hi => ?_)
      · simp only [List.mem_cons, Prod.mk.injEq, List.not_mem_nil, or_false] at hab
        rcases hab with ⟨rfl, rfl⟩ | ⟨rfl, rfl⟩
        · rw [eqEnv0, eqEnv0, dn_tk, dn_tk]; rfl
        · rw [eqEnv0, eqEnv0, dn_tk, dn_tk]; simp [eqNames]
      · have hi := blt_lt hi
        match i, hi with
        | 0, _ => exact ⟨nofun, rfl⟩
        | 1, _ => exact ⟨nofun, rfl⟩
    by_cases hall : ∀ k, k < n1 → elemEq pt.length k l1 l2
    · have heq : l1 = l2 := by
        apply List.ext_getElem?
        intro j
        by_cases hj : j < n1 * pt.length
        · have h3 := hall (j / pt.length) ((Nat.div_lt_iff_lt_mul hpt).2 hj) (j % pt.length) (Nat.mod_lt _ hpt)
          rwa [Nat.mul_comm, Nat.div_add_mod] at h3
        · rw [List.getElem?_eq_none (by rw [h1.1]; omega), List.getElem?_eq_none (by rw [h2.1]; omega)]
      have hbt : b = true := hb.2 heq
      subst hbt
      refine scan (eqF E.fn.ntmps) n1 (fun k => eqEnv0 (eqNames pt.length n1 k l1 l2) v1 v2 pt.length k) (fun k hk a w hw ha => hstep k hk (hall k hk) a w hw ha _) (fun a w hw ha => ?_) a' w' hR.below hA'
      refine run_out (tab_ok ?_) hg noK_ok (eqStart hw (fun i o hio => nomem hio)) ha k5
      refine ⟨fun x hx => ?_, fun _ _ _ h => nomem h, fun _ _ _ h => nomem h, fun _ _ _ h => nomem h, fun _ _ h => nomem h, fun _ _ _ _ h => nomem h, fun _ _ h => nomem h, fun _ _ _ h => nomem h⟩
      simp only [eqLast, List.mem_singleton] at hx
      subst hx
      refine fe_lss ?_
      rw [eqEnv0, dn_tk, dn_tk]
      simp [eqNames]
    · -- the first place at which they part
      have hex : ∃ k, k < n1 ∧ ¬ elemEq pt.length k l1 l2 := by
        apply Classical.byContradiction
        intro hno
        exact hall fun k hk => Classical.byContradiction fun h => hno ⟨k, hk, h⟩
      have hmin : ∃ k, k < n1 ∧ ¬ elemEq pt.length k l1 l2 ∧ ∀ m, m < k → elemEq pt.length m l1 l2 := by
        obtain ⟨k, hk⟩ := hex
        revert hk
        induction k using Nat.strongRecOn with
        | _ k ih =>
          intro hk
          by_cases hm : ∃ m, m < k ∧ ¬ elemEq pt.length m l1 l2
          · obtain ⟨m, hm1, hm2⟩ := hm
            exact ih m hm1 ⟨by omega, hm2⟩
          · exact ⟨k, hk.1, hk.2, fun m hmk => Classical.byContradiction fun h => hm ⟨m, hmk, h⟩⟩
      obtain ⟨k0, hk0, hne, hbef⟩ := hmin
      obtain ⟨j, hj, hjne⟩ : ∃ j, j < pt.length ∧ l1[k0 * pt.length + j]? ≠ l2[k0 * pt.length + j]? := by
        apply Classical.byContradiction
        intro hno
        exact hne fun j hj => Classical.byContradiction fun h => hno ⟨j, hj, h⟩
      have hbf : b = false := by
        cases b with
        | false => rfl
        | true => exact absurd (by rw [hb.1 rfl]) hjne
      subst hbf
      refine scan (eqF E.fn.ntmps) k0 (fun k => eqEnv0 (eqNames pt.length n1 k l1 l2) v1 v2 pt.length k) (fun k hk a w hw ha => hstep k (by omega) (hbef k hk) a w hw ha _) (fun a w hw ha => ?_) a' w' hR.below hA'
      rw [List.all_eq_true] at k4
      exact run_ret (tab_ok (eqStep_ok hpt hpl hty h1 h2 y1 y2 hn hk0 (some j) ⟨hj, hjne⟩)) hg noK_ok (eqS_start hpt hpl h1 h2 y1 y2 hk0 hw) ha (k4 j (List.mem_range.2 hj))
  · have hbf : b = false := by
      cases b with
      | false => rfl
      | true =>
        have := hb.1 rfl
        exfalso
        apply hnn
        have e1 := h1.1
        have e2 := h2.1
        rw [this, e2] at e1
        exact (Nat.eq_of_mul_eq_mul_right hpt e1).symm
    subst hbf
    obtain ⟨s1, f1, e1, hd, hres⟩ := retX_spec k1
    exact seg (tab_ok (hT0 true (by simp; omega))) hg noK_ok 2 hR0 hA0 e1 fun μ' a' w' hle hR hA => bool_end (.inr rfl) hd hres hR hA

end
end Go.Hx
