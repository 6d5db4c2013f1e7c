/- MachineApplies: the executor: append and maps. Conditions: none. -/
import Derived.Test.YtpjfmjemmphheacDoorE2
set_option linter.all false
set_option linter.unusedVariables false
set_option linter.unusedSimpArgs false
namespace Go.Hx
open Go Go.RowKit

section
variable {w0 : Base} {μ : Mu} {s : St} {w : World} {P : Program}

theorem run_append_zero (t ty e : TypeId) (i : TypeInfo) (ht : P.underlying t = some (.slice e)) (hi : P.info? e = some i) (b a : Option Addr) (n c c' : Nat) (hnc : n ≤ c) (w : World) :
    (Builtin.append_ #[t, t] ty #[.slice b n c, .slice a 0 c']).run P w = .ok (.slice b n c) w := by
  cases b with
  | none => cases a <;> simp [Builtin.append_, run_underlying ht, sizeOf, typeInfo, hi, Builtin.lenOf, hnc, Builtin.firstCells, loadCells, loadCellsFrom]
  | some b => cases a <;> simp [Builtin.append_, run_underlying ht, sizeOf, typeInfo, hi, Builtin.lenOf, hnc, Builtin.firstCells, loadCells, loadCellsFrom, storeCells]

theorem run_append_place (t ty e e' : TypeId) (i : TypeInfo) (ht : P.underlying t = some (.slice e)) (hi : P.info? e = some i) (g o sLen sCap : Nat) (cur : Array Value) (hg : w.heap[g]? = some (.cells cur e' (0, 0)))
    (a : Addr) (m c : Nat) (news : List Value) (hl : news.length = m * i.size) (hnews : ∀ (j : Nat) (u : Value), news[j]? = some u → w.cell? (a.add j) = some u) (h1 : ∀ u ∈ news, u.oneCell' = true)
    (hroom : sLen + m ≤ sCap) (hfit : o + sLen * i.size + news.length ≤ cur.size) :
    (Builtin.append_ #[t, t] ty #[.slice (some ⟨g, o, none⟩) sLen sCap, .slice (some a) m c]).run P w =
      .ok (.slice (some ⟨g, o, none⟩) (sLen + m) sCap) (w.setRow g (cur.toList.take (o + sLen * i.size) ++ news ++ cur.toList.drop (o + sLen * i.size + news.length)).toArray) := by
  have hf := run_firstCells_some (P := P) w i.size m a m c news hl hnews
  have hst := run_storeCells_at P g (o + sLen * i.size) e' news 0 cur w hg (by simpa using hfit) h1
  simp only [Nat.add_zero] at hst
  simp [Builtin.append_, run_underlying ht, sizeOf, typeInfo, hi, Builtin.lenOf, hroom, hf, add_plain', hst]

/-- What is appended: are its cells not known one by one; the cells; how many elements. -/
def srcA (s : St) (z : Nat) (y : Value) : Option (Bool × List Value × St) :=
  match y with
  | .slice (some ⟨i, o, none⟩) m _ => match s.h.get i with
    | some (.row false c _) => (rdC c o (m * z) s).map fun r => (false, r.1, r.2)
    | some (.ro c) => (rdC c o (m * z) s).map fun r => (false, r.1, r.2)
    | some (.lk false c) => (rdC c o (m * z) s).map fun r => (false, r.1, r.2)
    | some (.row true c _) => (needP (o + m * z ≤ c.length) s).map fun s' => (true, (c.drop o).take (m * z), s')
    | some (.lk true c) => (needP (o + m * z ≤ c.length) s).map fun s' => (true, (c.drop o).take (m * z), s')
    | _ => none
  | _ => match isFrz y with
    | some es => (needP (∀ v ∈ es, v.cells.size = z) s).map fun s' => (true, flatV es, s')
    | none => none
def lenA (y : Value) : Option Nat :=
  match y with
  | .slice _ m _ => some m
  | _ => (isFrz y).map List.length

def CRs (op : Bool) (μ : Mu) (l l' : List Value) : Prop := match op with
  | true => FRs μ.fz l l'
  | false => VRs μ l l'
theorem CRs.vrs {op : Bool} {l l' : List Value} (h : CRs op μ l l') : VRs μ l l' := by
  cases op with
  | true => exact FRs.vrs h
  | false => exact h
theorem CRs.get {op : Bool} {l l' : List Value} (h : CRs op μ l l') : ∀ (j : Nat) (v : Value), l[j]? = some v → ∃ v', l'[j]? = some v' ∧ CR op μ v v' := by
  cases op with
  | true => exact FRs.get h
  | false => exact VRs.get h
theorem CRs.length {op : Bool} {l l' : List Value} (h : CRs op μ l l') : l.length = l'.length := h.vrs.length
theorem CRs.append {op : Bool} {a a' b b' : List Value} (h : CRs op μ a a') (k : CRs op μ b b') : CRs op μ (a ++ b) (a' ++ b') := by
  cases op with
  | true => exact FRs.append h k
  | false => exact VRs.append h k
/-- The cells of a row of one kind, as those of another kind. -/
def asOK (op op' : Bool) (l : List Value) : Bool := match op, op' with
  | false, true => l.all (idf 0)
  | _, _ => true
theorem as_cr {op op' : Bool} {l l' : List Value} (h : asOK op op' l = true) (k : CRs op μ l l') : CRs op' μ l l' := by
  cases op <;> cases op'
  · exact k
  · exact idfs_frs h k
  · exact FRs.vrs k
  · exact k
theorem frs_one {fz : Nat → Option Obj} {l l' : List Value} (h : FRs fz l l') : ∀ v ∈ l', v.oneCell' = true := by
  induction l generalizing l' with
  | nil => cases h; intro v hv; cases hv
  | cons a l ih => cases h with
    | cons h t => intro v hv; cases hv with
      | head => rw [h.oneCell.1]; exact h.oneCell.2
      | tail _ hm => exact ih t v hm
def oneOK (op : Bool) (l : List Value) : Bool := match op with
  | true => true
  | false => l.all Value.oneCell'
theorem one_ok {op : Bool} {l l' : List Value} (h : oneOK op l = true) (k : CRs op μ l l') : ∀ v ∈ l', v.oneCell' = true := by
  cases op with
  | true => exact frs_one k
  | false => exact VRs.oneCell k h

theorem csr_crs {op : Bool} {c : List Value} {cur : Array Value} {b o n : Nat} (h : CsR op μ c cur b) (hn : o + n ≤ c.length) :
    ((cur.toList.drop (b + o)).take n).length = n ∧ CRs op μ ((c.drop o).take n) ((cur.toList.drop (b + o)).take n) := by
  obtain ⟨h1, h2⟩ := part_of h hn
  have hl : ((c.drop o).take n).length = n := by simp; omega
  refine ⟨h1, ?_⟩
  cases op with
  | true => exact FRs.of_get (by omega) h2
  | false => exact VRs.of_get (by omega) h2

theorem src_sound (h : R w0 μ s w) {z : Nat} {y y' : Value} {op : Bool} {news : List Value} {s' : St} {m : Nat} (hs : srcA s z y = some (op, news, s')) (hl : lenA y = some m) (hy : VR μ y y') :
    s.like s' ∧ (SOK s' → m ≠ 0 → ∃ ay cy news', y' = .slice (some ay) m cy ∧ CRs op μ news news' ∧ news'.length = m * z ∧ ∀ (j : Nat) (u : Value), news'[j]? = some u → w.cell? (ay.add j) = some u) := by
  have own : ∀ (i o n c : Nat) (op : Bool) (cs l : List Value) (s' : St), ((∃ e, s.h.get i = some (.row op cs e)) ∨ (op = false ∧ s.h.get i = some (.ro cs)) ∨ s.h.get i = some (.lk op cs)) → VR μ (.slice (some ⟨i, o, none⟩) n c) y' → o + n * z ≤ cs.length → l = (cs.drop o).take (n * z) → n ≠ 0 →
      ∃ ay cy news', y' = .slice (some ay) n cy ∧ CRs op μ l news' ∧ news'.length = n * z ∧ ∀ (j : Nat) (u : Value), news'[j]? = some u → w.cell? (ay.add j) = some u := by
    intro i o n c op cs l s' hi hv hn hl hn0
    obtain ⟨p, cur, e, fr, h1, h2, h3⟩ := row_at h hi
    obtain ⟨h4, h5⟩ := csr_crs h3 hn
    rcases hv.slice_inv with ⟨i2, o2, p2, he, hp, hc, rfl⟩ | ⟨i2, o2, p2, z2, c', he, hcz, hp, hn', hm', hr, rfl⟩ | ⟨z2, a'', hcz, hn0', rfl⟩
    · obtain ⟨rfl, rfl, _⟩ := Addr.mk.inj he
      rw [hp] at h1; cases h1
      exact ⟨_, _, _, rfl, by rw [hl]; exact h5, h4, cells_at h2⟩
    · obtain ⟨rfl, rfl, _⟩ := Addr.mk.inj he
      rw [hp] at h1; cases h1
      exact ⟨_, _, _, rfl, by rw [hl]; exact h5, h4, cells_at h2⟩
    · exact absurd hn0' hn0
  have closed : ∀ (i o n c : Nat) (cs : List Value), ((∃ e, s.h.get i = some (.row false cs e)) ∨ (false = false ∧ s.h.get i = some (.ro cs)) ∨ s.h.get i = some (.lk false cs)) → VR μ (.slice (some ⟨i, o, none⟩) n c) y' → lenA (.slice (some ⟨i, o, none⟩) n c) = some m →
      ((rdC cs o (n * z) s).map fun r => (false, r.1, r.2)) = some (op, news, s') → s.like s' ∧ (SOK s' → m ≠ 0 → ∃ ay cy news', y' = .slice (some ay) m cy ∧ CRs op μ news news' ∧ news'.length = m * z ∧ ∀ (j : Nat) (u : Value), news'[j]? = some u → w.cell? (ay.add j) = some u) := by
    intro i o n c cs hi hv hl hr
    simp only [lenA, Option.some.injEq] at hl
    subst hl
    simp only [Option.map_eq_some_iff, Prod.mk.injEq] at hr
    obtain ⟨⟨l, s1⟩, hr, rfl, rfl, rfl⟩ := hr
    obtain ⟨k1, k2⟩ := rdX_spec (op := false) hr
    exact ⟨k1, fun ok hm => own i o n c false cs _ s1 hi hv (k2 ok).1 (k2 ok).2.symm hm⟩
  have open' : ∀ (i o n c : Nat) (cs : List Value), ((∃ e, s.h.get i = some (.row true cs e)) ∨ (true = false ∧ s.h.get i = some (.ro cs)) ∨ s.h.get i = some (.lk true cs)) → VR μ (.slice (some ⟨i, o, none⟩) n c) y' → lenA (.slice (some ⟨i, o, none⟩) n c) = some m →
      ((needP (o + n * z ≤ cs.length) s).map fun s' => (true, (cs.drop o).take (n * z), s')) = some (op, news, s') → s.like s' ∧ (SOK s' → m ≠ 0 → ∃ ay cy news', y' = .slice (some ay) m cy ∧ CRs op μ news news' ∧ news'.length = m * z ∧ ∀ (j : Nat) (u : Value), news'[j]? = some u → w.cell? (ay.add j) = some u) := by
    intro i o n c cs hi hv hl hr
    simp only [lenA, Option.some.injEq] at hl
    subst hl
    simp only [Option.map_eq_some_iff, Prod.mk.injEq] at hr
    obtain ⟨s1, hr, rfl, rfl, rfl⟩ := hr
    obtain ⟨k1, k2⟩ := needP_like hr
    exact ⟨k1, fun ok hm => own i o n c true cs _ s1 hi hv (k2 ok) rfl hm⟩
  unfold srcA at hs
  split at hs
  · rename_i i o n c
    split at hs
    · rename_i cs e hg; exact closed i o n c cs (.inl ⟨e, hg⟩) hy hl hs
    · rename_i cs hg; exact closed i o n c cs (.inr (.inl ⟨rfl, hg⟩)) hy hl hs
    · rename_i cs hg; exact closed i o n c cs (.inr (.inr hg)) hy hl hs
    · rename_i cs e hg; exact open' i o n c cs (.inl ⟨e, hg⟩) hy hl hs
    · rename_i cs hg; exact open' i o n c cs (.inr (.inr hg)) hy hl hs
    · cases hs
  · split at hs
    · rename_i es hes
      simp only [Option.map_eq_some_iff, Prod.mk.injEq] at hs
      obtain ⟨s1, hr, rfl, rfl, rfl⟩ := hs
      obtain ⟨k1, k2⟩ := needP_like hr
      refine ⟨k1, fun ok hm => ?_⟩
      have hz := k2 ok
      have hye := isFrz_eq hes
      subst hye
      have hml : m = es.length := by
        have e : lenA (frz es) = some es.length := rfl
        rw [e] at hl
        exact (Option.some.inj hl).symm
      subst hml
      cases hy with
      | iface ht _ => exact absurd ht (by simp [TYM])
      | frz hy =>
        cases hy with
        | frz0 => simp at hm
        | frz h1 h2 h3 h4 h5 h6 =>
          rename_i b o z' c cur e fr
          obtain ⟨v0, hv0⟩ := List.exists_mem_of_ne_nil es (fun e => by subst e; simp at hm)
          have : z' = z := (h3 v0 hv0).symm.trans (hz v0 hv0)
          subst this
          exact ⟨_, _, _, rfl, h6, by simp; omega, cells_at (h.fz _ _ h1)⟩
    · cases hs

/-- A new row of either kind. -/
def hNewX (op : Bool) (s : St) (c : List Value) (e : TypeId) : Option (Nat × St) :=
  (Tr.set 64 s.h s.next (.row op c e)).map fun t => (s.next, { s with h := t, next := s.next + 1 })
theorem newX_sub {op : Bool} {c : List Value} {e : TypeId} {i : Nat} {s' : St} (hn : hNewX op s c e = some (i, s')) : s.sub s' := by
  unfold hNewX at hn
  simp only [Option.map_eq_some_iff, Prod.mk.injEq] at hn
  obtain ⟨t, ht, rfl, rfl⟩ := hn
  exact ⟨[], rfl⟩
theorem newX_sound (h : R w0 μ s w) {op : Bool} {c : List Value} {e : TypeId} {i : Nat} {s' : St} (hn : hNewX op s c e = some (i, s')) {cur : Array Value} (hc : c.length ≤ cur.size) (hcs : CsR op μ c cur 0) :
    ∃ μ', μ.le μ' ∧ R w0 μ' s' (w.alloc (.cells cur e)) ∧ μ' i = some ⟨w.heap.size, 0, cur.size, nobd⟩ := by
  unfold hNewX at hn
  simp only [Option.map_eq_some_iff, Prod.mk.injEq] at hn
  obtain ⟨t, ht, rfl, rfl⟩ := hn
  exact ⟨_, Mu.put_le (h.fresh _ (Nat.le_refl _)), h.alloc c e ht cur hc hcs, Mu.put_same _ _ _⟩

/-- The cells of the growing row: of one that is not known cell by cell, all of it. -/
def oldA (op : Bool) (c0 : List Value) (o nz : Nat) (s : St) : Option (List Value × St) := match op with
  | true => bif Nat.beq o 0 then (needP (nz = c0.length) s).map fun s' => (c0, s') else none
  | false => bif Nat.ble (o + nz) c0.length then some ((c0.drop o).take nz, s) else none
theorem oldA_like {op : Bool} {c0 l : List Value} {o nz : Nat} {s' : St} (h : oldA op c0 o nz s = some (l, s')) : s.like s' ∧ (SOK s' → o + nz ≤ c0.length ∧ l = (c0.drop o).take nz) := by
  cases op with
  | true =>
    simp only [oldA] at h
    cases hb : Nat.beq o 0 with
    | false => rw [hb] at h; simp at h
    | true =>
      rw [hb] at h
      simp only [cond_true, Option.map_eq_some_iff, Prod.mk.injEq] at h
      obtain ⟨s1, h1, rfl, rfl⟩ := h
      obtain ⟨k1, k2⟩ := needP_like h1
      refine ⟨k1, fun ok => ?_⟩
      have := k2 ok
      have := (beq_iff _ _).1 hb
      subst this
      exact ⟨by omega, by rw [List.drop_zero, List.take_of_length_le (by omega)]⟩
  | false =>
    simp only [oldA] at h
    cases hb : Nat.ble (o + nz) c0.length with
    | false => rw [hb] at h; simp at h
    | true =>
      rw [hb] at h
      simp only [cond_true, Option.some.injEq, Prod.mk.injEq] at h
      obtain ⟨rfl, rfl⟩ := h
      exact ⟨s.like_refl, fun _ => ⟨ble_le hb, rfl⟩⟩

/-- Something is appended that is not empty. -/
def hGrow (s : St) (e : TypeId) (z : Nat) (xa : Option Addr) (n c m : Nat) (op : Bool) (news : List Value) : Option (Value × St) :=
  match xa with
  | none => (hNewX op s news e).map fun (k, s') => (.slice (some ⟨k, 0, none⟩) m (UNK + z), s')
  | some ⟨i, o, none⟩ => bif Nat.blt c UNK then
      match popB (Nat.ble (n + m) c) s with
      | some (true, s) => match s.h.get i with
        | some (.row op0 c0 e0) => bif asOK op op0 news then
            match fitB op0 (o + n * z + news.length) c0.length s with
            | some s1 => (Tr.set 64 s.h i (.row op0 (c0.take (o + n * z) ++ news ++ c0.drop (o + n * z + news.length)) e0)).map fun t => (.slice xa (n + m) c, { s1 with h := t })
            | none => none
          else none
        | _ => none
      | some (false, s) => match rd s i o (n * z) with
        | some (olds, s) => bif asOK false op olds then (hNewX op s (olds ++ news) e).map fun (k, s') => (.slice (some ⟨k, 0, none⟩) (n + m) (UNK + z), s') else none
        | none => none
      | none => none
    else bif Nat.beq (UNK + z) c then
      match s.h.get i with
      | some (.row op0 c0 e0) => bif Nat.beq e0 e && Nat.blt i s.next then
          match oldA op0 c0 o (n * z) s with
          | some (olds, s) => bif asOK op0 (op0 || op) olds && asOK op (op0 || op) news then
              match Tr.set 64 s.h i .dead with
              | some t => (hNewX (op0 || op) { s with h := t } (olds ++ news) e).map fun (k, s') => (.slice (some ⟨k, 0, none⟩) (n + m) (UNK + z), s')
              | none => none
            else none
          | none => none
        else none
      | _ => none
    else none
  | _ => none

def hAppend (P : Program) (s : St) (t : TypeId) (x y : Value) : Option (Value × St) :=
  match P.underlying t, lenA y with
  | some (.slice e), some m => match P.info? e, zeroC P e with
    | some f, some z => match popB (Nat.beq m 0) s with
      | some (true, s) => match x with
        | .slice _ n c => bif Nat.blt c UNK then (bif Nat.ble n c then some (x, s) else none) else some (x, s)
        | _ => none
      | some (false, s) => match srcA s f.size y with
        | none => none
        | some (op, news, s) => match x with
          | .slice xa n c => match need (Nat.ble ((n + m) * f.bytes) 140737488355328 && Nat.ble (n + m) 4611686018427387904) s with
            | some s => bif oneOK op news && Nat.beq z.length f.size && Nat.blt 0 f.size then hGrow s e f.size xa n c m op news else none
            | none => none
          | _ => none
      | none => none
    | _, _ => none
  | _, _ => none

theorem zeroCells_size (z : Array Value) (n : Nat) : (Builtin.zeroCells z n).size = n * z.size := by simp [Builtin.zeroCells]

/-- A grown row: what is known of it stands at its head. -/
theorem grown_new {op : Bool} {olds news olds' news' : List Value} (hs : R w0 μ s w) (ho : CRs op μ olds olds') (hn : CRs op μ news news') {e : TypeId} {k : Nat} {s' : St} (hnew : hNewX op s (olds ++ news) e = some (k, s')) (rest : Array Value) :
    ∃ μ', μ.le μ' ∧ R w0 μ' s' (w.drew.alloc (.cells (olds'.toArray ++ news'.toArray ++ rest) e)) ∧ μ' k = some ⟨w.heap.size, 0, olds'.length + news'.length + rest.size, nobd⟩ := by
  have hv := ho.append hn
  obtain ⟨μ', h1, h2, h3⟩ := newX_sound hs.drew hnew (cur := olds'.toArray ++ news'.toArray ++ rest) (by simp [ho.length, hn.length]) (fun j v hj => by
    obtain ⟨v', h4, h5⟩ := hv.get j v hj
    refine ⟨v', ?_, h5⟩
    have hlt : j < (olds' ++ news').length := by
      rcases Nat.lt_or_ge j (olds' ++ news').length with h' | h'
      · exact h'
      · rw [List.getElem?_eq_none h'] at h4; cases h4
    simp only [Nat.zero_add, List.append_toArray]
    rw [← Array.getElem?_toList, Array.toList_append, List.getElem?_append_left (by simpa using hlt)]
    simpa using h4)
  refine ⟨μ', h1, h2, ?_⟩
  rw [h3]
  simp [Nat.add_assoc]

theorem hGrow_sub {e : TypeId} {z : Nat} {xa : Option Addr} {n c m : Nat} {op : Bool} {news : List Value} {v : Value} {s' : St} (ha : hGrow s e z xa n c m op news = some (v, s')) : s.sub s' := by
  unfold hGrow at ha
  split at ha
  · simp only [Option.map_eq_some_iff, Prod.mk.injEq] at ha
    obtain ⟨⟨k, s1⟩, hnw, _, rfl⟩ := ha
    exact newX_sub hnw
  · rename_i i o
    cases hcu : Nat.blt c UNK with
    | true =>
      rw [hcu] at ha
      simp only [cond_true] at ha
      split at ha
      · rename_i s1 hp
        have q1 := (popB_like hp).1.sub
        split at ha
        · rename_i op0 c0 e0 hg
          cases has : asOK op op0 news with
          | false => rw [has] at ha; simp at ha
          | true =>
            rw [has] at ha
            simp only [cond_true] at ha
            split at ha
            · rename_i s2 hf
              simp only [Option.map_eq_some_iff, Prod.mk.injEq] at ha
              obtain ⟨t, _, _, rfl⟩ := ha
              exact St.sub_trans q1 (fitB_like hf).1.sub
            · cases ha
        · cases ha
      · rename_i s1 hp
        have q1 := (popB_like hp).1.sub
        split at ha
        · rename_i olds s2 hr
          cases has : asOK false op olds with
          | false => rw [has] at ha; simp at ha
          | true =>
            rw [has] at ha
            simp only [cond_true, Option.map_eq_some_iff, Prod.mk.injEq] at ha
            obtain ⟨⟨k, s3⟩, hnw, _, rfl⟩ := ha
            have q2 : s1.sub s2 := by
              unfold rd at hr
              split at hr
              · exact (rdX_spec hr).1.sub
              · exact (rdX_spec hr).1.sub
              · exact (rdX_spec hr).1.sub
              · cases hr
            exact St.sub_trans q1 (St.sub_trans q2 (newX_sub hnw))
        · cases ha
      · cases ha
    | false =>
      rw [hcu] at ha
      simp only [cond_false] at ha
      cases hcz : Nat.beq (UNK + z) c with
      | false => rw [hcz] at ha; simp at ha
      | true =>
        rw [hcz] at ha
        simp only [cond_true] at ha
        split at ha
        · rename_i op0 c0 e0 hg
          cases hb : (Nat.beq e0 e && Nat.blt i s.next) with
          | false => rw [hb] at ha; simp at ha
          | true =>
            rw [hb] at ha
            simp only [cond_true] at ha
            split at ha
            · rename_i olds s1 hold
              cases has : (asOK op0 (op0 || op) olds && asOK op (op0 || op) news) with
              | false => rw [has] at ha; simp at ha
              | true =>
                rw [has] at ha
                simp only [cond_true] at ha
                split at ha
                · rename_i t ht
                  simp only [Option.map_eq_some_iff, Prod.mk.injEq] at ha
                  obtain ⟨⟨k, s3⟩, hnw, _, rfl⟩ := ha
                  have q2 : s1.sub { s1 with h := t } := ⟨[], rfl⟩
                  exact St.sub_trans (oldA_like hold).1.sub (St.sub_trans q2 (newX_sub hnw))
                · cases ha
            · cases ha
        · cases ha
  · cases ha

theorem grow_sound (h : R w0 μ s w) {t ty e : TypeId} {f : TypeInfo} {z' : Value} (hu : P.underlying t = some (.slice e)) (hf : P.info? e = some f) (k2 : f.zero = some z') (b4 : z'.cells.size = f.size) (_b5 : 0 < f.size)
    {xa : Option Addr} {n c m : Nat} {x' : Value} {op : Bool} {news : List Value} {v : Value} {s' : St} (ha : hGrow s e f.size xa n c m op news = some (v, s')) (hx : VR μ (.slice xa n c) x') (hm0 : m ≠ 0)
    {ay : Addr} {cy : Nat} {news' : List Value} (hnv : CRs op μ news news') (hnl : news'.length = m * f.size) (hnc : ∀ (j : Nat) (u : Value), news'[j]? = some u → w.cell? (ay.add j) = some u)
    (hone : ∀ v ∈ news', v.oneCell' = true) (b2 : (n + m) * f.bytes ≤ 140737488355328) (b3 : n + m ≤ 4611686018427387904) (ok : SOK s') :
    ∃ v' w' μ', (Builtin.append_ #[t, t] ty #[x', .slice (some ay) m cy]).run P w = .ok v' w' ∧ μ.le μ' ∧ R w0 μ' s' w' ∧ VR μ' v v' := by
  have hnl2 : news.length = m * f.size := by rw [hnv.length]; exact hnl
  have hfit : ∀ old, old < n + m → Builtin.nextslicecap (n + m) old * f.bytes ≤ 281474976710656 := fun old ho => growslice_fits ho b2
  have hzc : ∀ k, (Builtin.zeroCells z'.cells k).size = k * f.size := fun k => by rw [zeroCells_size, b4]
  have hval : ∀ (μ' : Mu) (k : Nat) (cap : Nat), n + m ≤ cap → cap ≤ maxLen → μ' k = some ⟨w.heap.size, 0, (n + m) * f.size + (cap - (n + m)) * f.size, nobd⟩ →
      VR μ' (.slice (some ⟨k, 0, none⟩) (n + m) (UNK + f.size)) (.slice (some ⟨w.heap.size, 0, none⟩) (n + m) cap) := by
    intro μ' k cap h1 h2 h3
    have := VR.sliceU (o := 0) (n := n + m) (z := f.size) (c' := cap) h3 h1 h2 (by simp only; rw [← Nat.add_mul, Nat.zero_add]; exact Nat.mul_le_mul_right _ (by omega))
    simpa using this
  unfold hGrow at ha
  split at ha
  · simp only [Option.map_eq_some_iff, Prod.mk.injEq] at ha
    obtain ⟨⟨k, s1⟩, hnw, rfl, rfl⟩ := ha
    cases hx
    have b2' : m * f.bytes ≤ 281474976710656 := by have h2 := b2; rw [Nat.zero_add] at h2; omega
    have hrun := run_append_nil (P := P) w t ty e f z' hu hf k2 ay m cy news' hnl hnc (by omega) (by omega) b2'
    obtain ⟨μ', m1, m2, m3⟩ := grown_new (op := op) (olds := []) (olds' := []) h (by cases op <;> constructor) hnv (by simpa using hnw) (Builtin.zeroCells z'.cells (grownCap w m 0 e - m))
    refine ⟨_, _, μ', hrun, m1, ?_, ?_⟩
    · have e1 : (([] : List Value).toArray ++ news'.toArray ++ Builtin.zeroCells z'.cells (grownCap w m 0 e - m)) = news'.toArray ++ Builtin.zeroCells z'.cells (grownCap w m 0 e - m) := by simp
      rw [e1] at m2
      exact m2
    · have h1 := grownCap_ge w m 0 e
      have h2 := grownCap_le_maxLen w m 0 e (by simp only [maxLen]; omega)
      have := hval μ' k (grownCap w m 0 e) (by simpa using h1) h2 (by rw [m3]; simp [hnl, hzc])
      simpa using this
  · rename_i i o
    cases hcu : Nat.blt c UNK with
    | true =>
      rw [hcu] at ha
      simp only [cond_true] at ha
      have hcu := blt_lt hcu
      obtain ⟨p, hp, rfl⟩ : ∃ p, μ i = some p ∧ x' = .slice (some ⟨p.blk, p.base + o, none⟩) n c := by
        rcases hx.slice_inv with ⟨i2, o2, p2, he, hp, hc, rfl⟩ | ⟨_, _, _, z, _, _, hcz, _⟩ | ⟨z, _, hcz, _⟩
        · obtain ⟨rfl, rfl, _⟩ := Addr.mk.inj he
          exact ⟨p2, hp, rfl⟩
        · exfalso; omega
        · exfalso; omega
      split at ha
      · rename_i s1 hpop
        obtain ⟨q1, q2⟩ := popB_like hpop
        have h1 := h.like q1
        split at ha
        · rename_i op0 c0 e0 hg
          cases has : asOK op op0 news with
          | false => rw [has] at ha; simp at ha
          | true =>
            rw [has] at ha
            simp only [cond_true] at ha
            split at ha
            · rename_i s2 hfb
              obtain ⟨q3, q4⟩ := fitB_like hfb
              simp only [Option.map_eq_some_iff, Prod.mk.injEq] at ha
              obtain ⟨tr, htr, rfl, rfl⟩ := ha
              have ok2 : SOK s2 := ok
              have hroom := ble_le (q2 (SOK.of_sub q3.sub ok2))
              have hle := q4 ok2
              obtain ⟨p', cur, g1, g2, g3, g4, g5, g6⟩ := h1.row i op0 c0 e0 hg
              rw [hp] at g1; cases g1
              have hnn := hnv.length
              have hrun := run_append_place (P := P) (w := w) t ty e e0 f hu hf p.blk (p.base + o) n c cur g2 ay m cy news' hnl hnc hone hroom (by omega)
              refine ⟨_, _, μ, hrun, Mu.le_refl _, R.same (s := { s1 with h := tr }) (h1.write (p := p) (op' := op0) (cur' := _) hg htr hp g2 ?_ ?_ ?_ (w0.upd _ _ _ h.below g5 (off_setRow _ _ _)) (Nat.le_of_eq (off_setRow _ _ _).size.symm) (setRow_heap w p.blk cur _ e0 _ g2) (fun g hne => setRow_other w p.blk g _ hne)) rfl q3.next q3.ng, .sliceK hp hcu⟩
              · have e1 : (cur.toList.take (p.base + o + n * f.size)).length = p.base + o + n * f.size := by rw [List.length_take, Array.length_toList]; omega
                simp only [List.size_toArray, List.length_append, e1, List.length_drop, Array.length_toList]; omega
              · simp only [List.length_append, List.length_take, List.length_drop]; omega
              · have := written (b := p.base) (o := o + n * f.size) g6 hnn (as_cr has hnv).get hle (by omega)
                rw [Nat.add_assoc p.base o]
                exact this
            · cases ha
        · cases ha
      · rename_i s1 hpop
        obtain ⟨q1, q2⟩ := popB_like hpop
        have h1 := h.like q1
        split at ha
        · rename_i olds s2 hold
          cases has : asOK false op olds with
          | false => rw [has] at ha; simp at ha
          | true =>
            rw [has] at ha
            simp only [cond_true, Option.map_eq_some_iff, Prod.mk.injEq] at ha
            obtain ⟨⟨k, s3⟩, hnw, rfl, rfl⟩ := ha
            obtain ⟨q3, q4⟩ := rd_still h1 hold
            have ok2 : SOK s2 := SOK.of_sub (newX_sub hnw) ok
            obtain ⟨p', cur, e0, fr0, olds', r1, r2, r3, r4, r5, r6⟩ := q4 ok2
            rw [hp] at r1; cases r1
            have hroom : ¬ n + m ≤ c := fun hle => by
              have := q2 (SOK.of_sub q3.sub ok2)
              rw [Nat.ble_eq_true_of_le hle] at this; cases this
            have hrun := run_append_grow (P := P) w t ty e f z' hu hf k2 ⟨p.blk, p.base + o, none⟩ n c olds' r5 (by rw [r3]; exact cells_at r2) ay m cy news' hnl hnc (by omega) (by omega) (hfit c (by omega))
            obtain ⟨μ', m1, m2, m3⟩ := grown_new (h1.like q3) (as_cr (op := false) has r6) hnv hnw (Builtin.zeroCells z'.cells (grownCap w (n + m) c e - (n + m)))
            refine ⟨_, _, μ', hrun, m1, m2, hval μ' k _ (grownCap_ge _ _ _ _) (grownCap_le_maxLen _ _ _ _ (by simp only [maxLen]; omega)) ?_⟩
            rw [m3, r5, hnl, hzc, ← Nat.add_mul]
        · cases ha
      · cases ha
    | false =>
      rw [hcu] at ha
      simp only [cond_false] at ha
      have hcu : ¬ c < UNK := fun hlt => by
        have : Nat.blt c UNK = true := Nat.ble_eq_true_of_le hlt
        rw [this] at hcu; cases hcu
      cases hcz : Nat.beq (UNK + f.size) c with
      | false => rw [hcz] at ha; simp at ha
      | true =>
        rw [hcz] at ha
        simp only [cond_true] at ha
        have hcz := (beq_iff _ _).1 hcz
        split at ha
        · rename_i op0 c0 e0 hg
          cases hb : (Nat.beq e0 e && Nat.blt i s.next) with
          | false => rw [hb] at ha; simp at ha
          | true =>
            rw [hb] at ha
            simp only [cond_true] at ha
            simp only [Bool.and_eq_true] at hb
            obtain ⟨d2, d4⟩ := hb
            have d2 := (beq_iff _ _).1 d2
            have d4 := blt_lt d4
            subst d2
            split at ha
            · rename_i olds s1 hold
              obtain ⟨q1, q2⟩ := oldA_like hold
              cases has : (asOK op0 (op0 || op) olds && asOK op (op0 || op) news) with
              | false => rw [has] at ha; simp at ha
              | true =>
                rw [has] at ha
                simp only [cond_true] at ha
                simp only [Bool.and_eq_true] at has
                split at ha
                · rename_i tr htr
                  simp only [Option.map_eq_some_iff, Prod.mk.injEq] at ha
                  obtain ⟨⟨k, s3⟩, hnw, rfl, rfl⟩ := ha
                  have ok1 : SOK s1 := SOK.of_sub (s' := { s1 with h := tr }) ⟨[], rfl⟩ (SOK.of_sub (newX_sub hnw) ok)
                  obtain ⟨d3, rfl⟩ := q2 ok1
                  have h1 := h.like q1
                  have hg1 : s1.h.get i = some (.row op0 c0 e0) := by rw [q1.h]; exact hg
                  obtain ⟨p, cur, g1, g2, g3, g4, g5, g6⟩ := h1.row i op0 c0 e0 hg1
                  obtain ⟨q5, q6⟩ := csr_crs g6 d3
                  have q7 := cells_at (n := n * f.size) (o := p.base + o) g2
                  have hnv' := as_cr has.2 hnv
                  have hol' := as_cr has.1 q6
                  -- it grows
                  have grows : ∀ (a' : Addr) (c' : Nat), c' < n + m → (∀ (j : Nat) (u : Value), ((cur.toList.drop (p.base + o)).take (n * f.size))[j]? = some u → w.cell? (a'.add j) = some u) →
                      ∃ v' w' μ', (Builtin.append_ #[t, t] ty #[.slice (some a') n c', .slice (some ay) m cy]).run P w = .ok v' w' ∧ μ.le μ' ∧ R w0 μ' s3 w' ∧ VR μ' (.slice (some ⟨k, 0, none⟩) (n + m) (UNK + f.size)) v' := by
                    intro a' c' hlt hcells
                    have hrun := run_append_grow (P := P) w t ty e0 f z' hu hf k2 a' n c' _ q5 hcells ay m cy news' hnl hnc hlt (by omega) (hfit c' hlt)
                    obtain ⟨μ', m1, m2, m3⟩ := grown_new (h1.kill htr) hol' hnv' hnw (Builtin.zeroCells z'.cells (grownCap w (n + m) c' e0 - (n + m)))
                    refine ⟨_, _, μ', hrun, m1, m2, hval μ' k _ (grownCap_ge _ _ _ _) (grownCap_le_maxLen _ _ _ _ (by simp only [maxLen]; omega)) ?_⟩
                    rw [m3, q5, hnl, hzc, ← Nat.add_mul]
                  rcases hx.slice_inv with ⟨_, _, _, _, _, hc, _⟩ | ⟨i2, o2, p2, zz, c', he, hcz2, hp, hn', hm', hr, rfl⟩ | ⟨zz, a'', hcz2, hn0, rfl⟩
                  · exact absurd hc hcu
                  · obtain ⟨rfl, rfl, _⟩ := Addr.mk.inj he
                    rw [g1] at hp; cases hp
                    obtain rfl : zz = f.size := by omega
                    by_cases hroom : n + m ≤ c'
                    · -- in place
                      have hnn := hnv.length
                      have hmul : (n + m) * f.size ≤ c' * f.size := Nat.mul_le_mul_right _ hroom
                      have hadd : (n + m) * f.size = n * f.size + m * f.size := Nat.add_mul _ _ _
                      have hrun := run_append_place (P := P) (w := w) t ty e0 e0 f hu hf p.blk (p.base + o) n c' cur g2 ay m cy news' hnl hnc hone hroom (by omega)
                      unfold hNewX at hnw
                      simp only [Option.map_eq_some_iff, Prod.mk.injEq] at hnw
                      obtain ⟨u, hu2, rfl, rfl⟩ := hnw
                      have hlen : ((c0.drop o).take (n * f.size)).length = n * f.size := by simp; omega
                      have hol'' := hol'.get
                      refine ⟨_, _, _, hrun, Mu.put_le (h1.fresh _ (Nat.le_refl _)), h1.move (p := p) (o := o) (cur' := _) hg1 (by rw [q1.next]; omega) htr hu2 g1 g2 ?_ (by omega) (by rw [List.length_append, hlen]; omega) ?_ (w0.upd _ _ _ h.below g5 (off_setRow _ _ _)) (Nat.le_of_eq (off_setRow _ _ _).size.symm) (setRow_heap w p.blk cur _ e0 _ g2) (fun g hne => setRow_other w p.blk g _ hne), ?_⟩
                      · have e1 : (cur.toList.take (p.base + o + n * f.size)).length = p.base + o + n * f.size := by rw [List.length_take, Array.length_toList]; omega
                        simp only [List.size_toArray, List.length_append, e1, List.length_drop, Array.length_toList]; omega
                      · intro j v hj
                        have htb : (cur.toList.take (p.base + o + n * f.size)).length = p.base + o + n * f.size := by rw [List.length_take, Array.length_toList]; omega
                        simp only [List.getElem?_toArray]
                        by_cases hjn : j < n * f.size
                        · rw [List.getElem?_append_left (by omega)] at hj
                          obtain ⟨v', r1, r2⟩ := hol'' j v hj
                          refine ⟨v', ?_, r2⟩
                          rw [List.getElem?_take, if_pos hjn, List.getElem?_drop] at r1
                          rw [List.append_assoc, List.getElem?_append_left (by omega), List.getElem?_take, if_pos (by omega)]
                          exact r1
                        · rw [List.getElem?_append_right (by omega), hlen] at hj
                          obtain ⟨v', r1, r2⟩ := hnv'.get _ v hj
                          have hjl : j - n * f.size < news'.length := by
                            rcases Nat.lt_or_ge (j - n * f.size) news'.length with h' | h'
                            · exact h'
                            · rw [List.getElem?_eq_none h'] at r1; cases r1
                          refine ⟨v', ?_, r2⟩
                          rw [List.append_assoc, List.getElem?_append_right (by omega), List.getElem?_append_left (by omega), htb]
                          rw [show p.base + o + j - (p.base + o + n * f.size) = j - n * f.size by omega]
                          exact r1
                      · have := VR.sliceU (μ := μ.put s1.next ⟨p.blk, p.base + o, p.room - o, nobd⟩) (i := s1.next) (o := 0) (n := n + m) (z := f.size) (c' := c') (Mu.put_same _ _ _) hroom hm' (by simp only; omega)
                        simpa using this
                    · exact grows _ c' (by omega) q7
                  · have hn00 : n = 0 := hn0
                    subst hn00
                    exact grows a'' 0 (by omega) (fun j u hj => by simp at hj)
                · cases ha
            · cases ha
        · cases ha
  · cases ha

theorem append_sound (h : R w0 μ s w) {t ty : TypeId} {x y x' y' v : Value} {s' : St} (ha : hAppend P s t x y = some (v, s')) (hx : VR μ x x') (hy : VR μ y y') :
    s.sub s' ∧ (SOK s' → ∃ v' w' μ', (Builtin.append_ #[t, t] ty #[x', y']).run P w = .ok v' w' ∧ μ.le μ' ∧ R w0 μ' s' w' ∧ VR μ' v v') := by
  unfold hAppend at ha
  split at ha
  case h_2 => cases ha
  rename_i e m hu hlen
  split at ha
  case h_2 => cases ha
  rename_i f z hf hz
  obtain ⟨f', z', k1, k2, rfl, k3⟩ := zeroC_some hz
  rw [hf] at k1; cases k1
  split at ha
  · rename_i s1 hpop
    obtain ⟨q1, q2⟩ := popB_like hpop
    have h1 := h.like q1
    split at ha
    · rename_i xa n c
      have fin : ∀ (b : Option Addr) (n c : Nat), n ≤ c → SOK s1 → VR μ (.slice xa n c) (.slice b n c) ∨ True → (Builtin.append_ #[t, t] ty #[.slice b n c, y']).run P w = .ok (.slice b n c) w := by
        intro b n c hnc ok _
        have hm0 := (beq_iff _ _).1 (q2 ok)
        subst hm0
        obtain ⟨a', cy, rfl⟩ : ∃ a' cy, y' = .slice a' 0 cy := by
          cases y with
          | slice ya m' cy =>
            simp only [lenA, Option.some.injEq] at hlen
            subst hlen
            cases hy with
            | snil => exact ⟨_, _, rfl⟩
            | sliceK => exact ⟨_, _, rfl⟩
            | sliceU => exact ⟨_, _, rfl⟩
            | sliceE => exact ⟨_, _, rfl⟩
          | iface u v =>
            simp only [lenA, Option.map_eq_some_iff] at hlen
            obtain ⟨es, hes, hl⟩ := hlen
            have := List.eq_nil_of_length_eq_zero hl
            subst this
            rw [isFrz_eq hes] at hy
            cases hy with
            | iface ht _ => exact absurd ht (by simp [TYM])
            | frz hy => cases hy with
              | frz0 => exact ⟨_, _, rfl⟩
              | frz => exact ⟨_, _, rfl⟩
          | _ => simp [lenA, isFrz] at hlen
        exact run_append_zero t ty e f hu hf _ _ _ _ _ hnc w
      cases hck : Nat.blt c UNK with
      | true =>
        rw [hck] at ha
        simp only [cond_true] at ha
        cases hnc : Nat.ble n c with
        | false => rw [hnc] at ha; simp at ha
        | true =>
          rw [hnc] at ha
          simp only [cond_true, Option.some.injEq, Prod.mk.injEq] at ha
          obtain ⟨rfl, rfl⟩ := ha
          refine ⟨q1.sub, fun ok => ?_⟩
          have hnc := ble_le hnc
          have hck := blt_lt hck
          cases xa with
          | none =>
            cases hx
            exact ⟨_, w, μ, fin none 0 0 (Nat.le_refl _) ok (.inr trivial), Mu.le_refl _, h1, .snil⟩
          | some ax =>
            rcases hx.slice_inv with ⟨i, o, p, he, hp, hc, rfl⟩ | ⟨_, _, _, z, _, _, hcz, _⟩ | ⟨z, _, hcz, _⟩
            · subst he
              exact ⟨_, w, μ, fin _ _ _ hnc ok (.inr trivial), Mu.le_refl _, h1, .sliceK hp hc⟩
            · exfalso; omega
            · exfalso; omega
      | false =>
        rw [hck] at ha
        simp only [cond_false, Option.some.injEq, Prod.mk.injEq] at ha
        obtain ⟨rfl, rfl⟩ := ha
        refine ⟨q1.sub, fun ok => ?_⟩
        have hck' : ¬ c < UNK := fun hlt => by
          have : Nat.blt c UNK = true := Nat.ble_eq_true_of_le hlt
          rw [this] at hck; cases hck
        cases xa with
        | none => cases hx; exact absurd (by simp only [UNK]; omega) hck'
        | some ax =>
          have hx0 := hx
          rcases hx.slice_inv with ⟨_, _, _, _, _, hc, _⟩ | ⟨i, o, p, z, c', he, hcz, hp, hn, hm', hr, rfl⟩ | ⟨z, a'', hcz, hn0, rfl⟩
          · exact absurd hc hck'
          · exact ⟨_, w, μ, fin _ _ _ hn ok (.inr trivial), Mu.le_refl _, h1, hx0⟩
          · have hn00 : n = 0 := hn0
            subst hn00
            exact ⟨_, w, μ, fin _ _ _ (Nat.le_refl _) ok (.inr trivial), Mu.le_refl _, h1, hx0⟩
    · cases ha
  · rename_i s1 hpop
    obtain ⟨q1, q2⟩ := popB_like hpop
    have h1 := h.like q1
    split at ha
    · cases ha
    · rename_i op news s2 hsrc
      obtain ⟨q3, q4⟩ := src_sound h1 hsrc hlen hy
      have h2 := h1.like q3
      split at ha
      · rename_i xa n c
        split at ha
        · rename_i s3 hneed
          obtain ⟨q5, q6⟩ := need_like hneed
          have h3 := h2.like q5
          cases hb : (oneOK op news && Nat.beq z'.cells.toList.length f.size && Nat.blt 0 f.size) with
          | false => rw [hb] at ha; simp at ha
          | true =>
            rw [hb] at ha
            simp only [cond_true] at ha
            simp only [Bool.and_eq_true] at hb
            have hsub := hGrow_sub ha
            refine ⟨St.sub_trans q1.sub (St.sub_trans q3.sub (St.sub_trans q5.sub hsub)), fun ok => ?_⟩
            have ok3 := SOK.of_sub hsub ok
            have ok2 := SOK.of_sub q5.sub ok3
            have ok1 := SOK.of_sub q3.sub ok2
            have hm0 : m ≠ 0 := fun e => by subst e; have := q2 ok1; simp at this
            have hbd := q6 ok3
            simp only [Bool.and_eq_true] at hbd
            obtain ⟨ay, cy, news', rfl, hnv, hnl, hnc⟩ := q4 ok2 hm0
            exact grow_sound h3 hu hf k2 (by simpa using (beq_iff _ _).1 hb.1.2) (blt_lt hb.2) ha hx hm0 hnv hnl hnc (one_ok hb.1.1 hnv) (ble_le hbd.1) (ble_le hbd.2) ok
        · cases ha
      · cases ha
  · cases ha

def hLen (P : Program) (s : St) (t : TypeId) (x : Value) : Option Value :=
  match P.underlying t with
  | some (.slice _) => match x with
    | .slice _ n _ => some (.int .i64 n)
    | .iface t' (.int _ n) => bif Nat.beq t' 1208925819614629174706178 then some (.int .i64 n) else none
    | _ => (isFrz x).map fun es => .int .i64 es.length
  | some (.array n _) => some (.int .i64 n)
  | some .string => match x with
    | .string b => some (.int .i64 b.size)
    | _ => none
  | some (.map _ _) => match x with
    | .map none => some (.int .i64 0)
    | .map (some i) => match s.h.get i with
      | some (.map es _) => some (.int .i64 es.length)
      | _ => none
    | _ => none
  | _ => none

theorem len_sound (h : R w0 μ s w) {t ty : TypeId} {x x' v : Value} (hl : hLen P s t x = some v) (hx : VR μ x x') :
    (Builtin.len_ #[t] ty #[x']).run P w = .ok v w ∧ VR μ v v := by
  unfold hLen at hl
  split at hl
  · rename_i e hu
    split at hl
    · rename_i a n c
      simp only [Option.some.injEq] at hl
      subst hl
      refine ⟨?_, .int _ _⟩
      cases hx <;> simp [Builtin.len_, run_underlying hu, goInt]
    · rename_i t' kd n
      cases ht : Nat.beq t' 1208925819614629174706178 with
      | false => rw [ht] at hl; simp at hl
      | true =>
        rw [ht] at hl
        simp only [cond_true, Option.some.injEq] at hl
        subst hl
        have := (beq_iff _ _).1 ht
        subst this
        refine ⟨?_, .int _ _⟩
        cases hx with
        | iface ht _ => exact absurd ht (by simp [TYM])
        | szv => simp [Builtin.len_, run_underlying hu, goInt]
    · simp only [Option.map_eq_some_iff] at hl
      obtain ⟨es, hes, rfl⟩ := hl
      refine ⟨?_, .int _ _⟩
      rw [isFrz_eq hes] at hx
      cases hx with
      | iface ht _ => exact absurd ht (by simp [TYM])
      | frz hx => cases hx <;> simp [Builtin.len_, run_underlying hu, goInt]
  · rename_i n e hu
    simp only [Option.some.injEq] at hl
    subst hl
    refine ⟨?_, .int _ _⟩
    simp [Builtin.len_, run_underlying hu, goInt]
  · rename_i hu
    split at hl
    · simp only [Option.some.injEq] at hl
      subst hl
      refine ⟨?_, .int _ _⟩
      cases hx
      simp [Builtin.len_, run_underlying hu, goInt]
    · cases hl
  · rename_i k e hu
    split at hl
    · simp only [Option.some.injEq] at hl
      subst hl
      refine ⟨?_, .int _ _⟩
      cases hx
      simp [Builtin.len_, run_underlying hu, goInt]
    · rename_i i
      split at hl
      · rename_i es k' hg
        simp only [Option.some.injEq] at hl
        subst hl
        refine ⟨?_, .int _ _⟩
        cases hx with
        | map hp =>
          rename_i p
          obtain ⟨p', es', h1, h2, h3, h4⟩ := h.map i es k' hg
          rw [hp] at h1; cases h1
          have he : es'.size = es.length := by rw [h4.1]; simp
          have hgo : (getObj p.blk).run P w = .ok (.map es' k') w := by
            simp only [getObj, Sem.run, h2]
          simp [Builtin.len_, run_underlying hu, goInt, hgo, he]
      · cases hl
    · cases hl
  · cases hl

end
end Go.Hx

namespace Go.Hx
open Go Go.RowKit

/-! ### Where a key stands -/
def ixI {α : Type} : List (Int × α) → Int → Nat → Option Nat
  | [], _, _ => none
  | e :: l, n, i => if e.1 = n then some i else ixI l n (i + 1)
def lookI {α : Type} (es : List (Int × α)) (n : Int) : Option α := (ixI es n 0).bind fun j => (es[j]?).map (·.2)
def updI {α : Type} (es : List (Int × α)) (n : Int) (x : α) : List (Int × α) := match ixI es n 0 with
  | some j => es.set j (n, x)
  | none => es ++ [(n, x)]
theorem ixI_at {α : Type} : ∀ (es : List (Int × α)) (n : Int) (i j : Nat), ixI es n i = some j → i ≤ j ∧ ∃ x, es[j - i]? = some (n, x) := by
  intro es
  induction es with
  | nil => intro n i j h; cases h
  | cons e es ih =>
    intro n i j h
    simp only [ixI] at h
    split at h
    · rename_i hk
      cases h
      exact ⟨Nat.le_refl _, e.2, by simp [← hk]⟩
    · obtain ⟨h1, x, h2⟩ := ih n (i + 1) j h
      exact ⟨by omega, x, by rw [show j - i = (j - (i + 1)) + 1 by omega]; simpa using h2⟩
theorem lookI_some {α : Type} {es : List (Int × α)} {n : Int} {x : α} (h : lookI es n = some x) : ∃ j, ixI es n 0 = some j ∧ es[j]? = some (n, x) := by
  unfold lookI at h
  cases hj : ixI es n 0 with
  | none => rw [hj] at h; cases h
  | some j =>
    rw [hj] at h
    obtain ⟨_, y, h2⟩ := ixI_at es n 0 j hj
    rw [Nat.sub_zero] at h2
    simp only [Option.bind_some, h2, Option.map_some, Option.some.injEq] at h
    subst h
    exact ⟨j, rfl, h2⟩
theorem lookI_none {α : Type} {es : List (Int × α)} {n : Int} : lookI es n = none ↔ ixI es n 0 = none := by
  constructor
  · intro h
    cases hj : ixI es n 0 with
    | none => rfl
    | some j =>
      obtain ⟨_, y, h2⟩ := ixI_at es n 0 j hj
      rw [Nat.sub_zero] at h2
      simp [lookI, hj, h2] at h
  · intro h; simp [lookI, h]

/-- The entries' keys. -/
def KeysR {α : Type} (es : List (Int × α)) (es' : List MapEntry) : Prop :=
  es.length = es'.length ∧ ∀ (j : Nat) (e : Int × α), es[j]? = some e → ∃ e', es'[j]? = some e' ∧ e'.key = .int .i64 e.1

def IxOK (i : Nat) (es' : List MapEntry) : Option Nat → Option (Nat × Value) → Prop
  | none, none => True
  | some j, some (j', v) => j' = j ∧ i ≤ j ∧ ∃ e', es'[j - i]? = some e' ∧ v = e'.val
  | _, _ => False

theorem find_ix {α : Type} {n : Int} {d : IntKind} : ∀ (es : List (Int × α)) (es' : List MapEntry) (i : Nat), KeysR es es' →
    ∃ r', Instr.findNow (.int d) (.int .i64 n) es' i = some r' ∧ IxOK i es' (ixI es n i) r' := by
  intro es
  induction es with
  | nil =>
    intro es' i h
    have : es' = [] := List.eq_nil_of_length_eq_zero (by have := h.1; simpa using this.symm)
    subst this
    exact ⟨none, rfl, trivial⟩
  | cons e es ih =>
    intro es' i h
    cases es' with
    | nil => have := h.1; simp at this
    | cons e' es' =>
      obtain ⟨e2, k1, k2⟩ := h.2 0 e rfl
      simp at k1
      subst k1
      have hs : Instr.sameNow (.int d) (.int .i64 n) e'.key = some (n == e.1) := by rw [k2]; simp [Instr.sameNow]
      by_cases hk : e.1 = n
      · refine ⟨some (i, e'.val), ?_, ?_⟩
        · have : (n == e.1) = true := by simp [hk]
          simp only [Instr.findNow, hs, this]
        · simp only [ixI, if_pos hk]
          exact ⟨rfl, Nat.le_refl _, e', by simp, rfl⟩
      · obtain ⟨r', h1, h2⟩ := ih es' (i + 1) ⟨by have := h.1; simpa using this, fun j x hj => by simpa using h.2 (j + 1) x (by simpa using hj)⟩
        refine ⟨r', ?_, ?_⟩
        · have : (n == e.1) = false := by simp; exact fun e2 => hk e2.symm
          simp only [Instr.findNow, hs, this]
          exact h1
        · simp only [ixI, if_neg hk]
          cases hix : ixI es n (i + 1) with
          | none => rw [hix] at h2; cases r' <;> first | trivial | exact h2
          | some j =>
            rw [hix] at h2
            cases r' with
            | none => exact h2
            | some r' =>
              obtain ⟨j', v⟩ := r'
              obtain ⟨h3, h4, e3, h5, h6⟩ := h2
              exact ⟨h3, by omega, e3, by rw [show j - i = (j - (i + 1)) + 1 by omega]; simpa using h5, h6⟩

/-- Where an integer stands among the keys. -/
def lookE (k : IntKind) (n : Int) : List MapEntry → Nat → St → Option (Option (Nat × Value) × St)
  | [], _, s => some (none, s)
  | e :: es, i, s => match e.key with
    | .int k' m => bif decide (k = k') then
        match popB (decide (n = m)) s with
        | some (true, s') => some (some (i, e.val), s')
        | some (false, s') => lookE k n es (i + 1) s'
        | none => none
      else none
    | _ => none

section
variable {w0 : Base} {μ : Mu} {s : St} {w : World} {P : Program}

theorem EsR.tail {e e' : MapEntry} {es es' : List MapEntry} (h : EsR μ (e :: es) (e' :: es')) : EsR μ es es' :=
  ⟨by simpa using h.1, fun j x hj => h.2 (j + 1) x (by simpa using hj)⟩

theorem lookE_like {k : IntKind} {n : Int} : ∀ (es : List MapEntry) (i : Nat) (r : Option (Nat × Value)) (s s' : St), lookE k n es i s = some (r, s') → s.like s' := by
  intro es
  induction es with
  | nil => intro i r s s' h; cases h; exact s.like_refl
  | cons e es ih =>
    intro i r s s' h
    simp only [lookE] at h
    split at h
    · rename_i k' m hk
      cases hc : decide (k = k') with
      | false => rw [hc] at h; simp at h
      | true =>
        rw [hc] at h
        simp only [cond_true] at h
        split at h
        · rename_i s1 hp; cases h; exact (popB_like hp).1
        · rename_i s1 hp; exact (popB_like hp).1.trans (ih _ _ _ _ h)
        · cases h
    · cases h

theorem lookE_sound {k : IntKind} {n : Int} {d : IntKind} : ∀ (es es' : List MapEntry) (i : Nat) (r : Option (Nat × Value)) (s s' : St), EsR μ es es' → lookE k n es i s = some (r, s') → SOK s' →
    ∃ r', Instr.findNow (.int d) (.int k n) es' i = some r' ∧ (match r, r' with
      | none, none => True
      | some (j, v), some (j', v') => j' = j ∧ i ≤ j ∧ j < i + es.length ∧ VR μ v v'
      | _, _ => False) := by
  intro es
  induction es with
  | nil =>
    intro es' i r s s' h hl _
    have : es' = [] := by have := h.1; simp at this; exact List.eq_nil_of_length_eq_zero this.symm
    subst this
    cases hl
    exact ⟨none, rfl, trivial⟩
  | cons e es ih =>
    intro es' i r s s' h hl ok
    cases es' with
    | nil => have := h.1; simp at this
    | cons e' es' =>
      obtain ⟨e2, k1, k2, k3, k4⟩ := h.2 0 e rfl
      simp at k1
      subst k1
      simp only [lookE] at hl
      split at hl
      · rename_i k' m hk
        cases hc : decide (k = k') with
        | false => rw [hc] at hl; simp at hl
        | true =>
          rw [hc] at hl
          simp only [cond_true] at hl
          simp only [decide_eq_true_eq] at hc
          rw [hk] at k2
          generalize hkey : e'.key = key' at k2
          cases k2 with
          | int _ _ =>
            have hs : Instr.sameNow (.int d) (.int k n) e'.key = some (n == m) := by
              rw [hkey]; simp [Instr.sameNow, hc]
            split at hl
            · rename_i s1 hp
              cases hl
              have hn := (popB_like hp).2 ok
              refine ⟨some (i, e'.val), ?_, rfl, Nat.le_refl _, by simp, k3⟩
              have : (n == m) = true := by simpa using hn
              simp only [Instr.findNow, hs, this]
            · rename_i s1 hp
              have hn := (popB_like hp).2 (SOK.of_sub (lookE_like _ _ _ _ _ hl).sub ok)
              obtain ⟨r', h1, h2⟩ := ih es' (i + 1) r s1 s' h.tail hl ok
              refine ⟨r', ?_, ?_⟩
              · have : (n == m) = false := by simpa using hn
                simp only [Instr.findNow, hs, this]
                exact h1
              · cases r with
                | none => cases r' with
                  | none => trivial
                  | some r' => exact h2.elim
                | some r => cases r' with
                  | none => exact h2.elim
                  | some r' => exact ⟨h2.1, by have := h2.2.1; omega, by have := h2.2.2.1; simp; omega, h2.2.2.2⟩
            · cases hl
      · cases hl

def zeroR (P : Program) (elem : TypeId) (ok : Bool) (s : St) : Option (Value × St) := match hFlat P (zeroValue elem) with
  | some z => some (bif ok then .tuple ⟨[z, .bool false]⟩ else z, s)
  | none => none
def valR (v : Value) (ok : Bool) : Value := bif ok then .tuple ⟨[v, .bool true]⟩ else v

def hLookup (P : Program) (s : St) (t : TypeId) (x k : Value) (ok : Bool) : Option (Value × St) :=
  match P.underlying t, k with
  | some (.map key elem), .int kk n => match P.underlying key with
    | some (.int _) => match x with
      | .map none => zeroR P elem ok s
      | .map (some i) =>
        let es? := match s.h.get i with
          | some (.map es _) => some es
          | some (.rm es _) => some es
          | _ => none
        match es? with
        | some es => match lookE kk n es 0 s with
          | some (some (_, v), s') => some (valR v ok, s')
          | some (none, s') => zeroR P elem ok s'
          | none => none
        | none => match s.h.get i with
          | some (.omap es) => bif decide (kk = .i64) then
              match popB (lookI es n).isSome s with
              | some (true, s1) => match popO s1 with
                | some ([v], s2) => (needP (lookI es n = some v) s2).map fun s3 => (valR v ok, s3)
                | _ => none
              | some (false, s1) => zeroR P elem ok s1
              | none => none
            else none
          | some (.dmap es z) => bif decide (kk = .i64) then
              match popB (lookI es n).isSome s with
              | some (true, s1) => match popO s1 with
                | some ([.int _ m], s2) => (needP (0 ≤ m ∧ 0 < z ∧ ∃ cs, lookI es n = some cs ∧ cs.length = m.toNat * z) s2).map fun s3 => (valR (szv m.toNat) ok, s3)
                | _ => none
              | some (false, s1) => zeroR P elem ok s1
              | none => none
            else none
          | some (.kmap n0 v) => bif decide (kk = .i64) then (needP (n = n0) s).map fun s' => (valR v ok, s') else none
          | _ => none
      | _ => none
    | _ => none
  | _, _ => none

theorem run_checkKey_int {key : TypeId} {d kk : IntKind} {n : Int} (hk : P.underlying key = some (.int d)) (b : Bool) (w : World) : (Instr.checkKey b 10000 key (.int kk n)).run P w = .ok () w := by
  have key' : ∀ m, (Instr.checkKey b (m + 1) key (.int kk n)).run P w = .ok () w := fun m => by simp [Instr.checkKey, run_underlying hk]
  exact key' 9999

/-- What a lookup comes to, the entries and the place being found. -/
theorem lookup_run {t key elem : TypeId} {kk d : IntKind} {n : Int} {ok : Bool} (hu : P.underlying t = some (.map key elem)) (hkey : P.underlying key = some (.int d)) {x' : Value} {es' : List MapEntry}
    (hcase : (x' = .map none ∧ es' = []) ∨ ∃ r a c, x' = .map (some r) ∧ w.heap[r]? = some (.map a c) ∧ a.toList = es') {r' : Option (Nat × Value)} (hf : Instr.findNow (.int d) (.int kk n) es' 0 = some r') :
    ∀ (w1 : World), (∀ r, x' = .map (some r) → w1.heap[r]? = w.heap[r]?) → (Instr.lookup t x' (.int kk n) ok).run P w1 = ((do
              let (v, b) ← match r' with
                | some (_, v) => pure (v, true)
                | none => pure (← zeroValue elem, false)
              pure (if ok then .tuple #[v, .bool b] else v) : Sem Value).run P w1) := by
  intro w1 hw1
  rcases hcase with ⟨rfl, rfl⟩ | ⟨r, a, c, rfl, hb, rfl⟩
  · have hf' : Instr.findNow (.int d) (.int kk n) [] 0 = some r' := hf
    simp only [Instr.lookup, Sem.run_bind, run_underlying hu, Result.andThen_ok, Sem.run_pure, run_checkKey_int hkey, Instr.findKey, run_underlying hkey, hf']
    cases r' <;> rfl
  · have hb1 := (hw1 r rfl).trans hb
    simp only [Instr.lookup, Sem.run_bind, run_underlying hu, Result.andThen_ok, Sem.run_pure, getObj, Sem.run, hb1, run_checkKey_int hkey, Instr.findKey, run_underlying hkey, hf]
    cases r' <;> rfl

theorem look_found {t key elem : TypeId} {kk d : IntKind} {n : Int} {ok : Bool} (hu : P.underlying t = some (.map key elem)) (hkey : P.underlying key = some (.int d)) {x' : Value} {es' : List MapEntry}
    (hcase : (x' = .map none ∧ es' = []) ∨ ∃ r a c, x' = .map (some r) ∧ w.heap[r]? = some (.map a c) ∧ a.toList = es') {j : Nat} {v v' : Value} (hf : Instr.findNow (.int d) (.int kk n) es' 0 = some (some (j, v'))) (hv : VR μ v v') :
    ∃ u, (∀ w1 : World, (∀ r, x' = .map (some r) → w1.heap[r]? = w.heap[r]?) → (Instr.lookup t x' (.int kk n) ok).run P w1 = .ok u w1) ∧ VR μ (valR v ok) u := by
  have hrun := lookup_run (ok := ok) hu hkey hcase hf
  cases ok with
  | true => exact ⟨.tuple #[v', .bool true], fun w1 hw1 => by rw [hrun w1 hw1]; rfl, .tuple (.cons hv (.cons (.bool _) .nil))⟩
  | false => exact ⟨v', fun w1 hw1 => by rw [hrun w1 hw1]; rfl, hv⟩
theorem look_not {t key elem : TypeId} {kk d : IntKind} {n : Int} {ok : Bool} (hu : P.underlying t = some (.map key elem)) (hkey : P.underlying key = some (.int d)) {x' : Value} {es' : List MapEntry}
    (hcase : (x' = .map none ∧ es' = []) ∨ ∃ r a c, x' = .map (some r) ∧ w.heap[r]? = some (.map a c) ∧ a.toList = es') (hf : Instr.findNow (.int d) (.int kk n) es' 0 = some none) {v : Value} {s' : St} (hz : zeroR P elem ok s = some (v, s')) :
    s' = s ∧ ∃ u, (∀ w1 : World, (∀ r, x' = .map (some r) → w1.heap[r]? = w.heap[r]?) → (Instr.lookup t x' (.int kk n) ok).run P w1 = .ok u w1) ∧ VR μ v u := by
  have hrun := lookup_run (ok := ok) hu hkey hcase hf
  unfold zeroR at hz
  split at hz
  · rename_i z hz0
    cases hz
    have k2 := (hFlat_sound (μ := μ) hz0 w).2
    refine ⟨rfl, ?_⟩
    cases ok with
    | true => exact ⟨.tuple #[z, .bool false], fun w1 hw1 => by rw [hrun w1 hw1]; simp only [Sem.run_bind, (hFlat_sound (μ := μ) hz0 w1).1, Result.andThen_ok, Sem.run_pure, if_true], .tuple (.cons k2 (.cons (.bool _) .nil))⟩
    | false => exact ⟨z, fun w1 hw1 => by rw [hrun w1 hw1]; simp only [Sem.run_bind, (hFlat_sound (μ := μ) hz0 w1).1, Result.andThen_ok, Sem.run_pure, Bool.false_eq_true, if_false], k2⟩
  · cases hz
theorem zeroR_same {elem : TypeId} {ok : Bool} {v : Value} {s' : St} (hz : zeroR P elem ok s = some (v, s')) : s' = s := by
  unfold zeroR at hz
  split at hz
  · cases hz; rfl
  · cases hz

theorem R.omap (h : R w0 μ s w) (i : Nat) (es : List (Int × Value)) (hi : s.h.get i = some (.omap es)) : ∃ p es' k, μ i = some p ∧ w.heap[p.blk]? = some (.map es' k) ∧ w0.wr p.blk ∧ OmR μ es es'.toList := by
  obtain ⟨p, h1, ⟨es', k, h2, h3⟩, h4⟩ := h.obj i _ hi (by simp)
  exact ⟨p, es', k, h1, h2, h4 _ rfl, h3⟩
theorem R.dmap (h : R w0 μ s w) (i : Nat) (es : List (Int × List Value)) (z : Nat) (hi : s.h.get i = some (.dmap es z)) : ∃ p es' k, μ i = some p ∧ w.heap[p.blk]? = some (.map es' k) ∧ p.own p.blk ∧ (∀ g, p.own g → g < w.heap.size) ∧
    DmR μ z p w es es'.toList ∧ ∀ g, p.own g → w0.wr g := by
  obtain ⟨p, h1, ⟨es', k, h2, h3, h4, h5⟩, h6⟩ := h.obj i _ hi (by simp)
  exact ⟨p, es', k, h1, h2, h3, h4, h5, fun g hg => h6 g hg⟩

theorem R.kmap (h : R w0 μ s w) (i : Nat) (n : Int) (v : Value) (hi : s.h.get i = some (.kmap n v)) : ∃ p es' k, μ i = some p ∧ w0.lk i p.blk ∧ w.heap[p.blk]? = some (.map es' k) ∧ KmR μ n v es'.toList := by
  obtain ⟨p, h1, ⟨es', k, h2, h3, h4⟩, _⟩ := h.obj i _ hi (by simp)
  exact ⟨p, es', k, h1, h2, h3, h4⟩

theorem lookup_still (h : R w0 μ s w) {t : TypeId} {x k x' k' v : Value} {ok : Bool} {s' : St} (hl : hLookup P s t x k ok = some (v, s')) (hx : VR μ x x') (hk : VR μ k k') :
    s.like s' ∧ (SOK s' → ∃ v', (∀ w1 : World, (∀ r, x' = .map (some r) → w1.heap[r]? = w.heap[r]?) → (Instr.lookup t x' k' ok).run P w1 = .ok v' w1) ∧ VR μ v v') := by
  unfold hLookup at hl
  split at hl
  · rename_i key elem kk n hu
    split at hl
    · rename_i d hkey
      cases hk with
      | int _ _ =>
      split at hl
      · cases hx
        obtain rfl := zeroR_same hl
        exact ⟨St.like_refl _, fun _ => (look_not (w := w) hu hkey (.inl ⟨rfl, rfl⟩) rfl hl).2⟩
      · rename_i i
        dsimp only at hl
        have closed : ∀ (es : List MapEntry) (p : Place) (es' : Array MapEntry) (c : Nat), x' = .map (some p.blk) → w.heap[p.blk]? = some (.map es' c) → EsR μ es es'.toList →
            (match lookE kk n es 0 s with
          | some (some (_, v), s') => some (valR v ok, s')
          | some (none, s') => zeroR P elem ok s'
          | none => none) = some (v, s') → s.like s' ∧ (SOK s' → ∃ v', (∀ w1 : World, (∀ r, x' = .map (some r) → w1.heap[r]? = w.heap[r]?) → (Instr.lookup t x' (.int kk n) ok).run P w1 = .ok v' w1) ∧ VR μ v v') := by
          intro es p es' c hx' hb hE hl
          have hcase : (x' = .map none ∧ es'.toList = []) ∨ ∃ r a c, x' = .map (some r) ∧ w.heap[r]? = some (.map a c) ∧ a.toList = es'.toList := .inr ⟨p.blk, es', c, hx', hb, rfl⟩
          split at hl
          · rename_i j v0 s1 hlk
            cases hl
            refine ⟨lookE_like _ _ _ _ _ hlk, fun ok' => ?_⟩
            obtain ⟨r', h1, h2⟩ := lookE_sound (d := d) es es'.toList 0 _ _ _ hE hlk ok'
            cases r' with
            | none => exact h2.elim
            | some r' => exact look_found hu hkey hcase h1 h2.2.2.2
          · rename_i s1 hlk
            obtain rfl := zeroR_same hl
            refine ⟨lookE_like _ _ _ _ _ hlk, fun ok' => ?_⟩
            obtain ⟨r', h1, h2⟩ := lookE_sound (d := d) es es'.toList 0 _ _ _ hE hlk ok'
            cases r' with
            | some r' => exact h2.elim
            | none => exact (look_not hu hkey hcase h1 hl).2
          · cases hl
        split at hl
        · rename_i es hes
          split at hes
          · rename_i es0 c hg
            cases hes
            cases hx with
            | map hp =>
              obtain ⟨p, es', h1, h2, h3, h4⟩ := h.map _ _ _ hg
              rw [hp] at h1; cases h1
              exact closed _ _ _ _ rfl h2 h4 hl
          · rename_i es0 c hg
            cases hes
            cases hx with
            | map hp =>
              obtain ⟨p, es', h1, h2, h3, h4⟩ := h.rm _ _ _ hg
              rw [hp] at h1; cases h1
              exact closed _ _ _ _ rfl h3 h4 hl
          · cases hes
        · split at hl
          · rename_i es hg
            cases hkk : decide (kk = .i64) with
            | false => rw [hkk] at hl; simp at hl
            | true =>
              rw [hkk] at hl
              simp only [cond_true] at hl
              simp only [decide_eq_true_eq] at hkk
              subst hkk
              cases hx with
              | map hp =>
                rename_i p
                obtain ⟨p', es', c, h1, h2, h3, h4⟩ := h.omap _ _ hg
                rw [hp] at h1; cases h1
                have hcase : (Value.map (some p.blk) = .map none ∧ es'.toList = []) ∨ ∃ r a c, Value.map (some p.blk) = .map (some r) ∧ w.heap[r]? = some (.map a c) ∧ a.toList = es'.toList := .inr ⟨p.blk, es', c, rfl, h2, rfl⟩
                have hK : KeysR es es'.toList := ⟨h4.1, fun j e hj => let ⟨e', a, b, _⟩ := h4.2 j e hj; ⟨e', a, b⟩⟩
                obtain ⟨r', k1, k2⟩ := find_ix (n := n) (d := d) es es'.toList 0 hK
                split at hl
                · rename_i s1 hpop
                  obtain ⟨q1, q2⟩ := popB_like hpop
                  split at hl
                  · rename_i v0 s2 hpo
                    simp only [Option.map_eq_some_iff, Prod.mk.injEq] at hl
                    obtain ⟨s3, hn, rfl, rfl⟩ := hl
                    obtain ⟨q3, q4⟩ := needP_like hn
                    refine ⟨q1.trans ((popO_like hpo).trans q3), fun ok' => ?_⟩
                    obtain ⟨j, hj1, hj2⟩ := lookI_some (q4 ok')
                    rw [hj1] at k2
                    cases r' with
                    | none => exact k2.elim
                    | some r' =>
                      obtain ⟨j', v'⟩ := r'
                      obtain ⟨rfl, _, e', m1, rfl⟩ := k2
                      obtain ⟨e2, n1, n2, n3⟩ := h4.2 _ _ hj2
                      rw [Nat.sub_zero] at m1
                      rw [m1] at n1; cases n1
                      exact look_found hu hkey hcase k1 n3.vr
                  · cases hl
                · rename_i s1 hpop
                  obtain ⟨q1, q2⟩ := popB_like hpop
                  obtain rfl := zeroR_same hl
                  refine ⟨q1, fun ok' => ?_⟩
                  have hno : lookI es n = none := by have := q2 ok'; simpa using this
                  rw [lookI_none.1 hno] at k2
                  cases r' with
                  | some r' => exact k2.elim
                  | none => exact (look_not hu hkey hcase k1 hl).2
                · cases hl
          · rename_i es z hg
            cases hkk : decide (kk = .i64) with
            | false => rw [hkk] at hl; simp at hl
            | true =>
              rw [hkk] at hl
              simp only [cond_true] at hl
              simp only [decide_eq_true_eq] at hkk
              subst hkk
              cases hx with
              | map hp =>
                rename_i p
                obtain ⟨p', es', c, h1, h2, h3, h5, h4, _⟩ := h.dmap _ _ _ hg
                rw [hp] at h1; cases h1
                have hcase : (Value.map (some p.blk) = .map none ∧ es'.toList = []) ∨ ∃ r a c, Value.map (some p.blk) = .map (some r) ∧ w.heap[r]? = some (.map a c) ∧ a.toList = es'.toList := .inr ⟨p.blk, es', c, rfl, h2, rfl⟩
                have hK : KeysR es es'.toList := ⟨h4.1, fun j e hj => let ⟨e', a, b, _⟩ := h4.2.1 j e hj; ⟨e', a, b⟩⟩
                obtain ⟨r', k1, k2⟩ := find_ix (n := n) (d := d) es es'.toList 0 hK
                split at hl
                · rename_i s1 hpop
                  obtain ⟨q1, q2⟩ := popB_like hpop
                  split at hl
                  · rename_i km m s2 hpo
                    simp only [Option.map_eq_some_iff, Prod.mk.injEq] at hl
                    obtain ⟨s3, hn, rfl, rfl⟩ := hl
                    obtain ⟨q3, q4⟩ := needP_like hn
                    refine ⟨q1.trans ((popO_like hpo).trans q3), fun ok' => ?_⟩
                    obtain ⟨hm0, hz, cs, hlk, hcs⟩ := q4 ok'
                    obtain ⟨j, hj1, hj2⟩ := lookI_some hlk
                    rw [hj1] at k2
                    cases r' with
                    | none => exact k2.elim
                    | some r' =>
                      obtain ⟨j', v'⟩ := r'
                      obtain ⟨rfl, _, e', m1, rfl⟩ := k2
                      obtain ⟨e2, n1, n2, n3⟩ := h4.2.1 _ _ hj2
                      rw [Nat.sub_zero] at m1
                      rw [m1] at n1; cases n1
                      refine look_found hu hkey hcase k1 ?_
                      rcases n3 with ⟨a, c', g1, g2⟩ | ⟨b, o, n', c', cur, et, g1, g2, _⟩
                      · rw [g2]
                        have g1 : cs = [] := g1
                        rw [g1] at hcs
                        have : m.toNat = 0 := by
                          have e0 : m.toNat * z = 0 := hcs.symm
                          rcases Nat.mul_eq_zero.1 e0 with h | h
                          · exact h
                          · omega
                        rw [this]
                        exact .szv
                      · rw [g1]
                        have g2 : n' * z = cs.length := g2
                        have : n' = m.toNat := Nat.eq_of_mul_eq_mul_right hz (g2.trans hcs)
                        rw [← this]
                        exact .szv
                  · cases hl
                · rename_i s1 hpop
                  obtain ⟨q1, q2⟩ := popB_like hpop
                  obtain rfl := zeroR_same hl
                  refine ⟨q1, fun ok' => ?_⟩
                  have hno : lookI es n = none := by have := q2 ok'; simpa using this
                  rw [lookI_none.1 hno] at k2
                  cases r' with
                  | some r' => exact k2.elim
                  | none => exact (look_not hu hkey hcase k1 hl).2
                · cases hl
          · rename_i n0 v0 hg
            cases hkk : decide (kk = .i64) with
            | false => rw [hkk] at hl; simp at hl
            | true =>
              rw [hkk] at hl
              simp only [cond_true, Option.map_eq_some_iff, Prod.mk.injEq] at hl
              simp only [decide_eq_true_eq] at hkk
              subst hkk
              obtain ⟨s3, hn, rfl, rfl⟩ := hl
              obtain ⟨q3, q4⟩ := needP_like hn
              cases hx with
              | map hp =>
                rename_i p
                obtain ⟨p', es', c, h1, h2, h3, h4⟩ := h.kmap _ _ _ hg
                rw [hp] at h1; cases h1
                have hcase : (Value.map (some p.blk) = .map none ∧ es'.toList = []) ∨ ∃ r a c, Value.map (some p.blk) = .map (some r) ∧ w.heap[r]? = some (.map a c) ∧ a.toList = es'.toList := .inr ⟨p.blk, es', c, rfl, h3, rfl⟩
                refine ⟨q3, fun ok' => ?_⟩
                obtain rfl := q4 ok'
                obtain ⟨j, v', k1, k2⟩ := h4 d
                exact look_found hu hkey hcase k1 k2
          · cases hl
      · cases hl
    · cases hl
  · cases hl

theorem lookup_sound (h : R w0 μ s w) {t : TypeId} {x k x' k' v : Value} {ok : Bool} {s' : St} (hl : hLookup P s t x k ok = some (v, s')) (hx : VR μ x x') (hk : VR μ k k') :
    s.like s' ∧ (SOK s' → ∃ v', (Instr.lookup t x' k' ok).run P w = .ok v' w ∧ VR μ v v') := by
  obtain ⟨h0, h1⟩ := lookup_still h hl hx hk
  refine ⟨h0, fun ok' => ?_⟩
  obtain ⟨v', h1, h2⟩ := h1 ok'
  exact ⟨v', h1 w (fun _ _ => rfl), h2⟩

def hMakeMap (s : St) : Option (Value × St) :=
  (Tr.set 64 s.h s.next (.map [] 0)).map fun h => (.map (some s.next), { s with h := h, next := s.next + 1 })

theorem makeMap_sound (h : R w0 μ s w) {t : TypeId} {v : Value} {s' : St} (hm : hMakeMap s = some (v, s')) :
    s.sub s' ∧ ∃ v' w' μ', (Instr.makeMap t none).run P w = .ok v' w' ∧ μ.le μ' ∧ R w0 μ' s' w' ∧ VR μ' v v' := by
  unfold hMakeMap at hm
  simp only [Option.map_eq_some_iff, Prod.mk.injEq] at hm
  obtain ⟨u, hu, rfl, rfl⟩ := hm
  refine ⟨⟨[], rfl⟩, _, _, _, rfl, Mu.put_le (h.fresh _ (Nat.le_refl _)), h.allocMap hu, ?_⟩
  exact .map (p := ⟨w.heap.size, 0, 0, nobd⟩) (Mu.put_same _ _ _)

/-- The function behind a method of an interface value, and its receiver. -/
def hMethod (P : Program) (name : String) : Value → Option (FuncId × Value)
  | .iface t v => bif Nat.blt t TYM then match P.info? t, P.underlying t with
    | some inf, some d => match inf.methods.find? (·.name == name) with
      | some m => match m.path.toList, m.func, d with
        | [], some (f, true), .pointer _ => some (f, v)
        | _, _, _ => none
      | none => none
    | _, _ => none
    else none
  | _ => none

theorem method_sound {name : String} {v v' r : Value} {f : FuncId} (hm : hMethod P name v = some (f, r)) (hv : VR μ v v') :
    ∃ r', VR μ r r' ∧ ∀ (args : Array Value) (w : World), (callMethod v' name args).run P w = (callFunc f (#[r'] ++ args)).run P w := by
  unfold hMethod at hm
  split at hm
  · rename_i t u
    cases hb : Nat.blt t TYM with
    | false => rw [hb] at hm; simp at hm
    | true =>
      rw [hb] at hm
      simp only [cond_true] at hm
      have hb := blt_lt hb
      split at hm
      · rename_i inf d hinf hd
        split at hm
        · rename_i m hfind
          split at hm
          · rename_i f0 e hp hf
            simp only [Option.some.injEq, Prod.mk.injEq] at hm
            obtain ⟨rfl, rfl⟩ := hm
            cases hv with
            | @iface _ _ u' _ hv =>
              refine ⟨u', hv, fun args w => ?_⟩
              have hN : ∃ N, P.types.size + Made.depth = N + 1 := by
                have h0 : 0 < Made.depth := by decide
                exact ⟨P.types.size + Made.depth - 1, by omega⟩
              obtain ⟨N, hN⟩ := hN
              have hme : (method (P.types.size + Made.depth) t u' name).run P w = .ok (f0, u') w := by
                rw [hN]
                simp only [method, Sem.run_bind, typeInfo, run_program, Result.andThen_ok, hinf, Sem.run_pure, hfind, hp, follow, hf, receiverAt, run_underlying hd, Place.get]
              simp only [callMethod, Sem.run_bind, run_program, Result.andThen_ok, hme]
            | frz _ => exact absurd hb (by simp [TYM])
            | fptr _ _ _ => exact absurd hb (by simp [TYM])
            | szv => exact absurd hb (by simp [TYM])
          · cases hm
        · cases hm
      · cases hm
  · cases hm

end
end Go.Hx

namespace Go.Hx
open Go Go.RowKit

section
variable {w0 : Base} {μ : Mu} {s : St} {w : World} {P : Program}

/-- The cells of a slice that a map takes over. -/
def takeIn (s : St) (z : Nat) (v : Value) : Option (List Value × Option Nat × St) :=
  match v with
  | .slice none n c => bif Nat.beq n 0 && Nat.beq c 0 then some ([], none, s) else none
  | .slice (some ⟨k, 0, none⟩) n c => match s.h.get k with
    | some (.row op c0 _) => bif asOK op true c0 then (needP (n * z = c0.length ∧ c0 ≠ [] ∧ (c < UNK → n ≤ c)) s).map fun s' => (c0, some k, s') else none
    | _ => none
  | v => match isFrz v with
    | some [] => some ([], none, s)
    | _ => none

def hMapUpdate (P : Program) (s : St) (t : TypeId) (m k v : Value) : Option St :=
  match P.underlying t, m, k with
  | some (.map key _), .map (some i), .int kk n => match P.underlying key with
    | some (.int _) => match s.h.get i with
      | some (.map es c) => match lookE kk n es 0 s with
        | some (none, s1) => (Tr.set 64 s.h i (.map (es ++ [{ key := .int kk n, val := v, born := c }]) (c + 1))).map fun h => { s1 with h := h }
        | some (some (j, _), s1) => match es[j]? with
          | some e => (Tr.set 64 s.h i (.map (es.set j { e with key := .int kk n, val := v }) c)).map fun h => { s1 with h := h }
          | none => none
        | none => none
      | some (.omap es) => bif decide (kk = .i64) && idf 0 v then (Tr.set 64 s.h i (.omap (updI es n v))).map fun h => { s with h := h } else none
      | some (.dmap es z) => bif decide (kk = .i64) then
          match takeIn s z v with
          | some (cs, none, s1) => (Tr.set 64 s.h i (.dmap (updI es n cs) z)).map fun h => { s1 with h := h }
          | some (cs, some k, s1) => match Tr.set 64 s.h k .dead with
            | some h1 => (Tr.set 64 h1 i (.dmap (updI es n cs) z)).map fun h => { s1 with h := h }
            | none => none
          | none => none
        else none
      | _ => none
    | _ => none
  | _, _, _ => none

/-- What the map is behind an update, and that the entry is there. -/
def updObj (es' : Array MapEntry) (c : Nat) (k : IntKind) (n : Int) (v' : Value) : Option (Nat × Value) → Obj
  | none => .map (es'.push { key := .int k n, val := v', born := c }) (c + 1)
  | some (j, _) => .map (es'.modify j fun e => { e with key := .int k n, val := v' }) c
def hitOK (es' : List MapEntry) (k : IntKind) (n : Int) : Option (Nat × Value) → Prop
  | none => True
  | some (j, _) => ∃ e, es'[j]? = some e ∧ e.key = .int k n

/-- What the update comes to. -/
theorem run_mapUpdate {t key elem : TypeId} {kk d : IntKind} {n : Int} (hu : P.underlying t = some (.map key elem)) (hkey : P.underlying key = some (.int d)) {b : Nat} {es' : Array MapEntry} {c : Nat} (hb : w.heap[b]? = some (.map es' c)) {r' : Option (Nat × Value)}
    (hf : Instr.findNow (.int d) (.int kk n) es'.toList 0 = some r') (v' : Value) :
    hitOK es'.toList kk n r' →
    (Instr.mapUpdate t (.map (some b)) (.int kk n) v').run P w = .ok () { w with heap := w.heap.setIfInBounds b (updObj es' c kk n v' r') } := by
  intro hr
  cases r' with
  | none => simp only [Instr.mapUpdate, Sem.run_bind, run_underlying hu, Result.andThen_ok, getObj, Sem.run, hb, Sem.run_pure, run_checkKey_int hkey, Instr.findKey, run_underlying hkey, hf, setObj, updObj]
  | some r =>
    obtain ⟨j, v0⟩ := r
    obtain ⟨e, h1, h2⟩ := hr
    have h3 : es'[j]? = some e := by simpa using h1
    have h4 : (Instr.keyThatStays (((es'[j]?).map (·.key)).getD (.int kk n)) (.int kk n)).run P w = .ok (.int kk n) w := by
      rw [h3]; simp [Instr.keyThatStays, h2, Instr.sameBits]
    simp only [Instr.mapUpdate, Sem.run_bind, run_underlying hu, Result.andThen_ok, getObj, Sem.run, hb, Sem.run_pure, run_checkKey_int hkey, Instr.findKey, run_underlying hkey, hf, setObj, h4, updObj]

theorem modify_get (es' : Array MapEntry) (j : Nat) (g : MapEntry → MapEntry) (i : Nat) : (es'.modify j g).toList[i]? = if j = i then (es'.toList[i]?).map g else es'.toList[i]? := by
  simp only [Array.getElem?_toList, Array.getElem?_modify]

theorem map_block {w : World} {b : Nat} {O O' : Obj} (h : w.heap[b]? = some O) : (w.heap.setIfInBounds b O')[b]? = some O' := by
  have := block_lt h
  simp [this]
theorem map_other {w : World} {b g : Nat} {O' : Obj} (h : g ≠ b) : (w.heap.setIfInBounds b O')[g]? = w.heap[g]? := by simp [Ne.symm h]
theorem map_off {w : World} {b : Nat} {O' : Obj} : Off b w { w with heap := w.heap.setIfInBounds b O' } := ⟨rfl, rfl, rfl, by simp, fun g hg => map_other hg⟩

/-- The entries behind an update, for keys and values that stand in any relation. -/
theorem upd_rel {α : Type} {Q : α → Value → Prop} {es : List (Int × α)} {es' : Array MapEntry} {n : Int} {x : α} {v' : Value} {c : Nat} {r' : Option (Nat × Value)} (hl : es.length = es'.toList.length)
    (h : ∀ (j : Nat) (e : Int × α), es[j]? = some e → ∃ e', es'.toList[j]? = some e' ∧ e'.key = .int .i64 e.1 ∧ Q e.2 e'.val) (hx : Q x v')
    (hr : IxOK 0 es'.toList (ixI es n 0) r') :
    ∃ es2 c2, updObj es' c .i64 n v' r' = .map es2 c2 ∧ (updI es n x).length = es2.toList.length ∧
      ∀ (j : Nat) (e : Int × α), (updI es n x)[j]? = some e → ∃ e', es2.toList[j]? = some e' ∧ e'.key = .int .i64 e.1 ∧ Q e.2 e'.val := by
  unfold updI
  cases hix : ixI es n 0 with
  | none =>
    rw [hix] at hr
    cases r' with
    | some r' => exact hr.elim
    | none =>
      refine ⟨_, _, rfl, by simp [hl], fun j e hj => ?_⟩
      rw [Array.toList_push]
      rcases Nat.lt_or_ge j es.length with hjl | hjl
      · rw [List.getElem?_append_left hjl] at hj
        rw [List.getElem?_append_left (by omega)]
        exact h j e hj
      · rw [List.getElem?_append_right hjl] at hj
        rw [List.getElem?_append_right (by omega), ← hl]
        have hj0 : j - es.length = 0 := by
          rcases Nat.eq_zero_or_pos (j - es.length) with h0 | h0
          · exact h0
          · rw [List.getElem?_eq_none (by simp; omega)] at hj; cases hj
        rw [hj0] at hj ⊢
        simp at hj
        subst hj
        exact ⟨_, rfl, rfl, hx⟩
  | some j0 =>
    rw [hix] at hr
    cases r' with
    | none => exact hr.elim
    | some r' =>
      obtain ⟨j', v0⟩ := r'
      obtain ⟨rfl, _, e0, h1, h2⟩ := hr
      rw [Nat.sub_zero] at h1
      obtain ⟨_, y, hy⟩ := ixI_at es n 0 j' hix
      rw [Nat.sub_zero] at hy
      refine ⟨_, _, rfl, by simp [hl], fun j e hj => ?_⟩
      rw [modify_get]
      dsimp only at hj
      by_cases hjj : j' = j
      · subst hjj
        rw [if_pos rfl, h1]
        have hjl : j' < es.length := by
          rcases Nat.lt_or_ge j' es.length with h' | h'
          · exact h'
          · rw [List.getElem?_eq_none h'] at hy; cases hy
        rw [List.getElem?_set_self hjl] at hj
        cases hj
        exact ⟨_, rfl, rfl, hx⟩
      · rw [if_neg hjj]
        rw [List.getElem?_set_ne hjj] at hj
        exact h j e hj

theorem ix_same {α : Type} {es : List (Int × α)} {es' : List MapEntry} {n : Int} {r' : Option (Nat × Value)} (hK : KeysR es es')
    (hr : IxOK 0 es' (ixI es n 0) r') : hitOK es' .i64 n r' := by
  cases r' with
  | none => trivial
  | some r' =>
    obtain ⟨j', v⟩ := r'
    cases hix : ixI es n 0 with
    | none => rw [hix] at hr; exact hr.elim
    | some j =>
      rw [hix] at hr
      obtain ⟨rfl, _, e', h1, _⟩ := hr
      obtain ⟨_, y, hy⟩ := ixI_at es n 0 j' hix
      rw [Nat.sub_zero] at hy h1
      obtain ⟨e2, k1, k2⟩ := hK.2 _ _ hy
      rw [h1] at k1; cases k1
      exact ⟨e', h1, k2⟩

/-- The place of an object says that it owns other blocks. -/
theorem Mu.put_sim {i : Nat} {p q : Place} (h : μ i = some p) (hs : p.sim q) : μ.le (μ.put i q) := ⟨fun j r hj => by
  by_cases hji : j = i
  · subst hji; rw [h] at hj; cases hj; exact ⟨q, Mu.put_same _ _ _, hs⟩
  · exact ⟨r, by rw [Mu.put_other hji]; exact hj, r.sim_refl⟩, fun _ _ h => h⟩

/-- A map takes a row over. -/
theorem R.absorb (h : R w0 μ s w) {i k d1 d2 : Nat} {es es2 : List (Int × List Value)} {z : Nat} {op : Bool} {c0 : List Value} {e0 : TypeId} {t1 t2 : Tr HObj} (hi : s.h.get i = some (.dmap es z)) (hk : s.h.get k = some (.row op c0 e0))
    (ht1 : Tr.set d1 s.h k .dead = some t1) (ht2 : Tr.set d2 t1 i (.dmap es2 z) = some t2) {p q : Place} (hp : μ i = some p) (hq : μ k = some q) {w' : World} {es' : Array MapEntry} {c : Nat} (hw : w0.ok w') (hsz : w.heap.size ≤ w'.heap.size)
    (hblk : w'.heap[p.blk]? = some (.map es' c)) (hoth : ∀ g, g ≠ p.blk → w'.heap[g]? = w.heap[g]?)
    (hD : DmR (μ.put i { p with own := fun g => p.own g ∨ g = q.blk }) z { p with own := fun g => p.own g ∨ g = q.blk } w' es2 es'.toList) :
    μ.le (μ.put i { p with own := fun g => p.own g ∨ g = q.blk }) ∧ R w0 (μ.put i { p with own := fun g => p.own g ∨ g = q.blk }) { s with h := t2 } w' := by
  have hik : i ≠ k := fun e => by subst e; rw [hi] at hk; cases hk
  have hle : μ.le (μ.put i { p with own := fun g => p.own g ∨ g = q.blk }) := Mu.put_sim hp ⟨rfl, rfl, rfl⟩
  have hg1 := Tr.get_set d1 s.h t1 k .dead ht1
  have hg2 := Tr.get_set d2 t1 t2 i _ ht2
  obtain ⟨p1, _, _, k1, k2, k3, k4, _, k5⟩ := h.dmap i es z hi
  rw [hp] at k1; cases k1
  obtain ⟨q1, cur, m1, m2, _, _, m3, _⟩ := h.row k op c0 e0 hk
  rw [hq] at m1; cases m1
  have at' : ∀ x, t2.get i = some x → x = .dmap es2 z := fun x hx => by rw [hg2, if_pos rfl] at hx; exact (Option.some.inj hx).symm
  have sub : ∀ j x, t2.get j = some x → j ≠ i → x ≠ .dead → j ≠ k ∧ s.h.get j = some x := fun j x hj hji hx => by
    rw [hg2, if_neg hji, hg1] at hj
    by_cases hjk : j = k
    · rw [if_pos hjk] at hj; cases hj; exact absurd rfl hx
    · rw [if_neg hjk] at hj; exact ⟨hjk, hj⟩
  have nd : ∀ (x : HObj) (r : Place) (g : Nat), own x r g → x ≠ .dead := fun x r g hg e => by subst e; exact hg
  have free : ∀ j x r, t2.get j = some x → j ≠ i → μ j = some r → ∀ g, own x r g → ¬ (p.own g ∨ g = q.blk) := fun j x r hj hji hr g hg hb => by
    obtain ⟨hjk, hj'⟩ := sub j x hj hji (nd _ _ _ hg)
    rcases hb with hb | hb
    · exact h.dis j i x _ r p hji hj' hi hr hp g hg hb
    · exact h.dis j k x _ r q hjk hj' hk hr hq g hg hb
  have old : ∀ j r, j ≠ i → (μ.put i { p with own := fun g => p.own g ∨ g = q.blk }) j = some r → μ j = some r := fun j r hj hr => by rwa [Mu.put_other hj] at hr
  refine ⟨hle, hw, fun j hj => ?_, fun j x hj hd => ?_, fun a b x y pa pb hab ha hb hpa hpb g hga hgb => ?_, fun b O hb => ?_, fun b O j x r hb hj hr hg => ?_, h.fzo, fun g hg => ?_⟩
  · by_cases hji : j = i
    · subst hji; exact absurd (h.fresh j hj) (by rw [hp]; simp)
    · rw [Mu.put_other hji]; exact h.fresh j hj
  · by_cases hji : j = i
    · subst hji
      have := at' _ hj
      subst this
      refine ⟨_, Mu.put_same _ _ _, ⟨es', c, hblk, .inl k3, fun g hg => ?_, hD⟩, fun g hg => ?_⟩
      · rcases hg with hg | hg
        · exact Nat.lt_of_lt_of_le (k4 g hg) hsz
        · rw [hg]; exact Nat.lt_of_lt_of_le (block_lt m2) hsz
      · rcases hg with hg | hg
        · exact k5 g hg
        · rw [hg]; exact m3
    · obtain ⟨hjk, hj'⟩ := sub j x hj hji hd
      obtain ⟨r, n1, n2, n3⟩ := h.obj j x hj' hd
      refine ⟨r, by rw [Mu.put_other hji]; exact n1, Hl.mono hle (n2.still (fun _ h => h) hsz fun g hg => ?_), n3⟩
      rcases hg with hg | hg
      · exact hoth g fun e => h.dis j i x _ r p hji hj' hi n1 hp g hg (by rw [e]; exact k3)
      · exact held h.below hw hg
  · by_cases hai : a = i
    · subst hai
      have := at' _ ha
      subst this
      rw [Mu.put_same] at hpa; cases hpa
      exact free b y pb hb (Ne.symm hab) (old _ _ (Ne.symm hab) hpb) g hgb hga
    · by_cases hbi : b = i
      · subst hbi
        have := at' _ hb
        subst this
        rw [Mu.put_same] at hpb; cases hpb
        exact free a x pa ha hai (old _ _ hai hpa) g hga hgb
      · exact h.dis a b x y pa pb hab (sub _ _ ha hai (nd _ _ _ hga)).2 (sub _ _ hb hbi (nd _ _ _ hgb)).2 (old _ _ hai hpa) (old _ _ hbi hpb) g hga hgb
  · have hO := h.fz b O hb
    rw [← hO]
    exact hoth b fun e => h.fzd b O i _ p hb hi hp (by rw [e]; exact k3)
  · by_cases hji : j = i
    · subst hji
      have := at' _ hj
      subst this
      rw [Mu.put_same] at hr; cases hr
      rcases hg with hg | hg
      · exact h.fzd b O j _ p hb hi hp hg
      · exact h.fzd b O k _ q hb hk hq hg
    · exact h.fzd b O j x r hb (sub _ _ hj hji (nd _ _ _ hg)).2 (old _ _ hji hr) hg
  · obtain ⟨r, r1, r2, r3⟩ := h.gl g hg
    by_cases hgi : g = i
    · subst hgi; rw [hp] at r1; cases r1; exact ⟨_, Mu.put_same _ _ _, r2, r3⟩
    · exact ⟨r, by rw [Mu.put_other hgi]; exact r1, r2, r3⟩

theorem takeIn_like {z : Nat} {v : Value} {cs : List Value} {ko : Option Nat} {s' : St} (h : takeIn s z v = some (cs, ko, s')) : s.like s' := by
  unfold takeIn at h
  split at h
  · rename_i n c
    cases hb : (Nat.beq n 0 && Nat.beq c 0) with
    | false => rw [hb] at h; simp at h
    | true => rw [hb] at h; simp only [cond_true, Option.some.injEq, Prod.mk.injEq] at h; obtain ⟨_, _, rfl⟩ := h; exact s.like_refl
  · split at h
    · rename_i op c0 e0 hg
      cases has : asOK op true c0 with
      | false => rw [has] at h; simp at h
      | true =>
        rw [has] at h
        simp only [cond_true, Option.map_eq_some_iff, Prod.mk.injEq] at h
        obtain ⟨s1, h1, _, _, rfl⟩ := h
        exact (needP_like h1).1
    · cases h
  · split at h
    · simp only [Option.some.injEq, Prod.mk.injEq] at h; obtain ⟨_, _, rfl⟩ := h; exact s.like_refl
    · cases h

theorem mapUpdate_sound (h : R w0 μ s w) {t : TypeId} {m k v m' k' v' : Value} {s' : St} (hu : hMapUpdate P s t m k v = some s') (hm : VR μ m m') (hk : VR μ k k') (hv : VR μ v v') :
    s.sub s' ∧ (SOK s' → ∃ w' μ', (Instr.mapUpdate t m' k' v').run P w = .ok () w' ∧ μ.le μ' ∧ R w0 μ' s' w') := by
  unfold hMapUpdate at hu
  split at hu
  · rename_i key elem i kk n hut
    split at hu
    · rename_i d hkey
      cases hk with
      | int _ _ =>
      cases hm with
      | map hp =>
      rename_i p
      split at hu
      · rename_i es c hg
        obtain ⟨q, es', h1, h2, h3, h4⟩ := h.map _ _ _ hg
        rw [hp] at h1; cases h1
        split at hu
        · rename_i s1 hlk
          have q1 := lookE_like _ _ _ _ _ hlk
          simp only [Option.map_eq_some_iff] at hu
          obtain ⟨tr, htr, rfl⟩ := hu
          refine ⟨q1.sub, fun ok => ?_⟩
          obtain ⟨r', k1, k2⟩ := lookE_sound (d := d) es es'.toList 0 _ _ _ h4 hlk ok
          cases r' with
          | some r' => exact k2.elim
          | none =>
            refine ⟨_, μ, run_mapUpdate hut hkey h2 k1 v' trivial, Mu.le_refl _, R.same (s := { s with h := tr }) (h.updAny (O' := .map (es'.push { key := .int kk n, val := v', born := c }) (c + 1)) hg htr hp h2 (.inr ⟨_, _, _, _, _, _, rfl, rfl, rfl, rfl, ?_⟩) (w0.upd _ _ _ h.below h3 map_off) (by simp) (map_block h2) (fun g hg' => map_other hg')) rfl q1.next q1.ng⟩
            refine ⟨by have := h4.1; simp; simpa using this, fun j e hj => ?_⟩
            rw [Array.toList_push]
            rcases Nat.lt_or_ge j es.length with hjl | hjl
            · rw [List.getElem?_append_left hjl] at hj
              obtain ⟨e', m1, m2⟩ := h4.2 j e hj
              have hjl' : j < es'.toList.length := by rw [← h4.1]; exact hjl
              exact ⟨e', by rw [List.getElem?_append_left hjl']; exact m1, m2⟩
            · rw [List.getElem?_append_right hjl] at hj
              have hj0 : j - es.length = 0 := by
                rcases Nat.eq_zero_or_pos (j - es.length) with h0 | h0
                · exact h0
                · rw [List.getElem?_eq_none (by simp; omega)] at hj; cases hj
              rw [hj0] at hj
              simp at hj
              subst hj
              have hjl' : es'.toList.length ≤ j := by rw [← h4.1]; exact hjl
              refine ⟨{ key := .int kk n, val := v', born := c }, ?_, .int _ _, hv, rfl⟩
              rw [List.getElem?_append_right hjl', ← h4.1, hj0]; rfl
        · rename_i j u s1 hlk
          have q1 := lookE_like _ _ _ _ _ hlk
          split at hu
          · rename_i e hej
            simp only [Option.map_eq_some_iff] at hu
            obtain ⟨tr, htr, rfl⟩ := hu
            refine ⟨q1.sub, fun ok => ?_⟩
            obtain ⟨r', k1, k2⟩ := lookE_sound (d := d) es es'.toList 0 _ _ _ h4 hlk ok
            cases r' with
            | none => exact k2.elim
            | some r' =>
              obtain ⟨j', u'⟩ := r'
              obtain ⟨rfl, _, hjl, k3⟩ := k2
              have hfk : ∀ (l : List MapEntry) (a b : Nat) (x : Value), Instr.findNow (.int d) (.int kk n) l a = some (some (b, x)) → a ≤ b ∧ ∃ e', l[b - a]? = some e' ∧ e'.key = .int kk n := by
                intro l
                induction l with
                | nil => intro a b x hx; simp [Instr.findNow] at hx
                | cons e' l ih =>
                  intro a b x hx
                  unfold Instr.findNow at hx
                  split at hx
                  · rename_i hsn
                    simp only [Option.some.injEq, Prod.mk.injEq] at hx
                    obtain ⟨rfl, _⟩ := hx
                    refine ⟨Nat.le_refl _, e', by simp, ?_⟩
                    cases hke : e'.key with
                    | int kd m =>
                      rw [hke] at hsn
                      simp only [Instr.sameNow] at hsn
                      split at hsn
                      · rename_i hkk
                        subst hkk
                        have : n = m := by simpa using hsn
                        rw [this]
                      · cases hsn
                    | _ => rw [hke] at hsn; simp [Instr.sameNow] at hsn
                  · obtain ⟨h5, e2, h6, h7⟩ := ih (a + 1) b x hx
                    exact ⟨by omega, e2, by rw [show b - a = (b - (a + 1)) + 1 by omega]; simpa using h6, h7⟩
                  · cases hx
              obtain ⟨_, e', m1, m2⟩ := hfk _ _ _ _ k1
              rw [Nat.sub_zero] at m1
              refine ⟨_, μ, run_mapUpdate hut hkey h2 k1 v' ⟨e', m1, m2⟩, Mu.le_refl _, R.same (s := { s with h := tr }) (h.updAny (O' := .map (es'.modify j' fun e => { e with key := .int kk n, val := v' }) c) hg htr hp h2 (.inr ⟨_, _, _, _, _, _, rfl, rfl, rfl, rfl, ?_⟩) (w0.upd _ _ _ h.below h3 map_off) (by simp) (map_block h2) (fun g hg' => map_other hg')) rfl q1.next q1.ng⟩
              refine ⟨by have := h4.1; simp; simpa using this, fun i e1 hi => ?_⟩
              rw [modify_get]
              by_cases hij : j' = i
              · subst hij
                rw [if_pos rfl, m1]
                have : j' < es.length := by omega
                rw [List.getElem?_set_self this] at hi
                cases hi
                obtain ⟨e3, n1, _, _, n4⟩ := h4.2 _ _ hej
                rw [m1] at n1; cases n1
                exact ⟨_, rfl, .int _ _, hv, n4⟩
              · rw [if_neg hij]
                rw [List.getElem?_set_ne hij] at hi
                exact h4.2 i e1 hi
          · cases hu
        · cases hu
      · rename_i es hg
        cases hb : (decide (kk = .i64) && idf 0 v) with
        | false => rw [hb] at hu; simp at hu
        | true =>
          rw [hb] at hu
          simp only [cond_true, Option.map_eq_some_iff] at hu
          obtain ⟨tr, htr, rfl⟩ := hu
          simp only [Bool.and_eq_true, decide_eq_true_eq] at hb
          obtain ⟨rfl, hidf⟩ := hb
          refine ⟨⟨[], rfl⟩, fun ok => ?_⟩
          obtain ⟨q, es', c, h1, h2, h3, h4⟩ := h.omap _ _ hg
          rw [hp] at h1; cases h1
          have hK : KeysR es es'.toList := ⟨h4.1, fun j e hj => let ⟨e', a, b, _⟩ := h4.2 j e hj; ⟨e', a, b⟩⟩
          obtain ⟨r', k1, k2⟩ := find_ix (n := n) (d := d) es es'.toList 0 hK
          obtain ⟨es2, c2, m1, m2, m3⟩ := upd_rel (Q := fun x v => FR μ.fz x v) (x := v) (v' := v') (c := c) h4.1 h4.2 (idf_fr hidf hv) k2
          refine ⟨_, μ, run_mapUpdate hut hkey h2 k1 v' (ix_same hK k2), Mu.le_refl _, ?_⟩
          refine h.turn hg htr hp (w0.upd _ _ _ h.below h3 map_off) (by simp) (fun g hg => hg) (fun _ => ⟨es2, c2, ?_, m2, m3⟩) (fun g hg' _ => map_other hg')
          rw [← m1]
          exact map_block h2
      · rename_i es z hg
        cases hb : decide (kk = .i64) with
        | false => rw [hb] at hu; simp at hu
        | true =>
          rw [hb] at hu
          simp only [cond_true] at hu
          simp only [decide_eq_true_eq] at hb
          subst hb
          obtain ⟨q, es', c, h1, h2, h3, h5, h4, h6⟩ := h.dmap _ _ _ hg
          rw [hp] at h1; cases h1
          have hK : KeysR es es'.toList := ⟨h4.1, fun j e hj => let ⟨e', a, b, _⟩ := h4.2.1 j e hj; ⟨e', a, b⟩⟩
          obtain ⟨r', k1, k2⟩ := find_ix (n := n) (d := d) es es'.toList 0 hK
          have hrun := run_mapUpdate (elem := elem) hut hkey h2 k1 v' (ix_same hK k2)
          -- the entries, their values being slices of the map's own, those of two keys apart
          have dist : ∀ (p2 : Place) (w2 : World) (cs : List Value) (es2 : Array MapEntry) (c2 : Nat), updObj es' c .i64 n v' r' = .map es2 c2 →
              (cs ≠ [] → ∀ (j : Nat) (e : MapEntry), es'.toList[j]? = some e → ∀ x, es[j]? = some x → x.2 ≠ [] → blkOf e.val ≠ blkOf v') →
              ∀ (i j : Nat) (e e' : MapEntry) (x y : Int × List Value), i ≠ j → (updI es n cs)[i]? = some x → (updI es n cs)[j]? = some y → x.2 ≠ [] → y.2 ≠ [] → es2.toList[i]? = some e → es2.toList[j]? = some e' → blkOf e.val ≠ blkOf e'.val := by
            intro p2 w2 cs es2 c2 hes2 hnew i j e e' x y hij hi hj hx hy hei hej
            -- each of the two is an old one or the new one
            have one : ∀ (i : Nat) (e : MapEntry) (x : Int × List Value), (updI es n cs)[i]? = some x → es2.toList[i]? = some e → (es[i]? = some x ∧ es'.toList[i]? = some e ∧ (∀ j0, ixI es n 0 = some j0 → i ≠ j0) ∧ i < es.length) ∨ (x.2 = cs ∧ e.val = v' ∧ ((∃ j0, ixI es n 0 = some j0 ∧ i = j0) ∨ (ixI es n 0 = none ∧ i = es.length))) := by
              intro i e x hi hei
              unfold updI at hi
              cases hix : ixI es n 0 with
              | none =>
                rw [hix] at hi k2
                cases r' with
                | some r' => exact k2.elim
                | none =>
                  cases hes2
                  rw [Array.toList_push] at hei
                  rcases Nat.lt_or_ge i es.length with hl | hl
                  · rw [List.getElem?_append_left hl] at hi
                    rw [List.getElem?_append_left (by rw [← h4.1]; exact hl)] at hei
                    exact .inl ⟨hi, hei, fun j0 h0 => (by cases h0), hl⟩
                  · rw [List.getElem?_append_right hl] at hi
                    rw [List.getElem?_append_right (by rw [← h4.1]; exact hl), ← h4.1] at hei
                    have h0 : i - es.length = 0 := by
                      rcases Nat.eq_zero_or_pos (i - es.length) with h0 | h0
                      · exact h0
                      · rw [List.getElem?_eq_none (by simp; omega)] at hi; cases hi
                    rw [h0] at hi hei
                    simp at hi hei
                    subst hi; subst hei
                    exact .inr ⟨rfl, rfl, .inr ⟨rfl, by omega⟩⟩
              | some j0 =>
                rw [hix] at hi k2
                cases r' with
                | none => exact k2.elim
                | some r' =>
                  obtain ⟨j', u⟩ := r'
                  obtain ⟨rfl, _, e0, n1, _⟩ := k2
                  rw [Nat.sub_zero] at n1
                  cases hes2
                  rw [modify_get] at hei
                  obtain ⟨_, y0, hy0⟩ := ixI_at es n 0 j' hix
                  rw [Nat.sub_zero] at hy0
                  have hjl : j' < es.length := by
                    rcases Nat.lt_or_ge j' es.length with h' | h'
                    · exact h'
                    · rw [List.getElem?_eq_none h'] at hy0; cases hy0
                  by_cases hjj : j' = i
                  · subst hjj
                    rw [if_pos rfl, n1] at hei
                    rw [List.getElem?_set_self hjl] at hi
                    simp at hei
                    cases hi; subst hei
                    exact .inr ⟨rfl, rfl, .inl ⟨j', rfl, rfl⟩⟩
                  · rw [if_neg hjj] at hei
                    rw [List.getElem?_set_ne hjj] at hi
                    refine .inl ⟨hi, hei, fun j0 h0 => (by cases h0; exact Ne.symm hjj), ?_⟩
                    rcases Nat.lt_or_ge i es.length with h' | h'
                    · exact h'
                    · rw [List.getElem?_eq_none h'] at hi; cases hi
            rcases one i e x hi hei with ⟨a1, a2, a3, a4⟩ | ⟨a1, a2, a3⟩
            · rcases one j e' y hj hej with ⟨b1, b2, b3, b4⟩ | ⟨b1, b2, b3⟩
              · exact h4.2.2 i j e e' x y hij a1 b1 hx hy a2 b2
              · rw [b2]; exact hnew (by rw [← b1]; exact hy) i e a2 x a1 hx
            · rcases one j e' y hj hej with ⟨b1, b2, b3, b4⟩ | ⟨b1, b2, b3⟩
              · rw [a2]; exact Ne.symm (hnew (by rw [← a1]; exact hx) j e' b2 y b1 hy)
              · exfalso
                rcases a3 with ⟨j0, a4, a5⟩ | ⟨a4, a5⟩ <;> rcases b3 with ⟨j1, b4, b5⟩ | ⟨b4, b5⟩
                · rw [a4] at b4; cases b4; omega
                · rw [a4] at b4; cases b4
                · rw [a4] at b4; cases b4
                · omega
          split at hu
          · rename_i cs s1 htk
            have q1 := takeIn_like htk
            simp only [Option.map_eq_some_iff] at hu
            obtain ⟨tr, htr, rfl⟩ := hu
            refine ⟨q1.sub, fun ok => ?_⟩
            have hcs : cs = [] ∧ ∃ a0 c0, v' = .slice a0 0 c0 := by
              unfold takeIn at htk
              split at htk
              · rename_i n0 c0
                cases hb : (Nat.beq n0 0 && Nat.beq c0 0) with
                | false => rw [hb] at htk; simp at htk
                | true =>
                  rw [hb] at htk
                  simp only [cond_true, Option.some.injEq, Prod.mk.injEq] at htk
                  simp only [Bool.and_eq_true, beq_iff] at hb
                  obtain ⟨rfl, rfl⟩ := hb
                  cases hv
                  exact ⟨htk.1.symm, _, _, rfl⟩
              · split at htk
                · rename_i op c0 e0 _
                  cases has : asOK op true c0 with
                  | false => rw [has] at htk; simp at htk
                  | true => rw [has] at htk; simp at htk
                · cases htk
              · split at htk
                · rename_i hfz
                  simp only [Option.some.injEq, Prod.mk.injEq] at htk
                  rw [isFrz_eq hfz] at hv
                  refine ⟨htk.1.symm, ?_⟩
                  cases hv with
                  | iface ht _ => exact absurd ht (by simp [TYM])
                  | frz k =>
                    cases k with
                    | frz0 => exact ⟨_, _, rfl⟩
                    | frz => exact ⟨_, _, rfl⟩
                · cases htk
            obtain ⟨rfl, a0, c0, rfl⟩ := hcs
            have hst : ∀ cs v, OwnS μ z p w cs v → OwnS μ z p { w with heap := w.heap.setIfInBounds p.blk (updObj es' c .i64 n (.slice a0 0 c0) r') } cs v := by
              intro cs v k
              rcases k with k | ⟨b, o, n', c', cur, e, g1, g2, g3, g4, g5, g6, g7⟩
              · exact .inl k
              · exact .inr ⟨b, o, n', c', cur, e, g1, g2, (map_other g7.1).trans g3, g4, g5, g6, g7⟩
            obtain ⟨es2, c2, m1, m2, m3⟩ := upd_rel (Q := fun x v => OwnS μ z p { w with heap := w.heap.setIfInBounds p.blk (updObj es' c .i64 n (.slice a0 0 c0) r') } x v) (x := []) (v' := .slice a0 0 c0) (c := c) h4.1 (fun j e hj => let ⟨e', a, b, c⟩ := h4.2.1 j e hj; ⟨e', a, b, hst _ _ c⟩) (.inl ⟨_, _, rfl, rfl⟩) k2
            refine ⟨_, μ, hrun, Mu.le_refl _, R.same (s := { s with h := tr }) (h.turn hg htr hp (w0.upd _ _ _ h.below (h6 _ h3) map_off) (by simp) (fun g hg => hg) (fun _ => ⟨es2, c2, ?_, h3, fun g hg => by have := h5 g hg; simpa using this, m2, m3, ?_⟩) (fun g hg' _ => map_other fun e => hg' (by rw [e]; exact h3))) rfl q1.next q1.ng⟩
            · rw [← m1]; exact map_block h2
            · exact dist p w [] es2 c2 m1 (fun h => absurd rfl h)
          · rename_i cs k0 s1 htk
            have q1 := takeIn_like htk
            split at hu
            · rename_i t1 ht1
              simp only [Option.map_eq_some_iff] at hu
              obtain ⟨t2, ht2, rfl⟩ := hu
              refine ⟨q1.sub, fun ok => ?_⟩
              have htk' : ∃ n0 c0 op e0, v = .slice (some ⟨k0, 0, none⟩) n0 c0 ∧ s.h.get k0 = some (.row op cs e0) ∧ asOK op true cs = true ∧ n0 * z = cs.length ∧ cs ≠ [] ∧ (c0 < UNK → n0 ≤ c0) := by
                unfold takeIn at htk
                split at htk
                · rename_i n0 c0
                  cases hb : (Nat.beq n0 0 && Nat.beq c0 0) with
                  | false => rw [hb] at htk; simp at htk
                  | true => rw [hb] at htk; simp at htk
                · rename_i k1 n0 c1
                  split at htk
                  · rename_i op c0 e0 hg0
                    cases has : asOK op true c0 with
                    | false => rw [has] at htk; simp at htk
                    | true =>
                      rw [has] at htk
                      simp only [cond_true, Option.map_eq_some_iff, Prod.mk.injEq] at htk
                      obtain ⟨s2, hn2, rfl, hk0, rfl⟩ := htk
                      cases hk0
                      have := (needP_like hn2).2 ok
                      exact ⟨n0, c1, op, e0, rfl, hg0, has, this.1, this.2.1, this.2.2⟩
                  · cases htk
                · split at htk
                  · simp at htk
                  · cases htk
              obtain ⟨n0, c0, op, e0, rfl, hgk, has, hn0, hne, hnc0⟩ := htk'
              obtain ⟨q, cur, r1, r2, r3, r4, r5, r6⟩ := h.row k0 op cs e0 hgk
              have hik : i ≠ k0 := fun e => by subst e; rw [hg] at hgk; cases hgk
              have hqb : ¬ p.own q.blk := fun ho => h.dis k0 i _ _ q p (Ne.symm hik) hgk hg r1 hp q.blk rfl ho
              have hqp : q.blk ≠ p.blk := fun e => hqb (by rw [e]; exact h3)
              obtain ⟨c', hv', hnc⟩ : ∃ c', v' = .slice (some ⟨q.blk, q.base + 0, none⟩) n0 c' ∧ n0 ≤ c' ∧ c' < UNK := by
                rcases hv.slice_inv with ⟨i2, o2, p2, he, hp2, hc, rfl⟩ | ⟨i2, o2, p2, z2, c', he, hcz, hp2, hn', hm', hr, rfl⟩ | ⟨z2, a'', hcz, hn0', rfl⟩
                · obtain ⟨rfl, rfl, _⟩ := Addr.mk.inj he
                  rw [r1] at hp2; cases hp2
                  exact ⟨_, rfl, hnc0 hc, hc⟩
                · obtain ⟨rfl, rfl, _⟩ := Addr.mk.inj he
                  rw [r1] at hp2; cases hp2
                  exact ⟨_, rfl, hn', Nat.lt_of_le_of_lt hm' (by decide)⟩
                · exfalso
                  rw [hn0', Nat.zero_mul] at hn0
                  exact hne (List.eq_nil_of_length_eq_zero hn0.symm)
              subst hv'
              obtain ⟨r7, r8⟩ := csr_crs (b := q.base) (o := 0) (n := cs.length) r6 (by omega)
              simp only [List.drop_zero, List.take_length] at r8
              have r9 : FRs μ.fz cs ((cur.toList.drop (q.base + 0)).take cs.length) := as_cr (op' := true) has r8
              have hst : ∀ (μ' : Mu) (w' : World) (cs : List Value) (v : Value), μ.le μ' → (∀ g, g ≠ p.blk → w'.heap[g]? = w.heap[g]?) → OwnS μ z p w cs v → OwnS μ' z { p with own := fun g => p.own g ∨ g = q.blk } w' cs v := by
                intro μ' w' cs v hle hw' k
                rcases k with k | ⟨b, o, n', c', cur, e, g1, g2, g3, g4, g5, g6, g7⟩
                · exact .inl k
                · exact .inr ⟨b, o, n', c', cur, e, g1, g2, (hw' b g7.1).trans g3, g4, g5.mono hle.fz, .inl g6, g7⟩
              have hle : μ.le (μ.put i { p with own := fun g => p.own g ∨ g = q.blk }) := Mu.put_sim hp ⟨rfl, rfl, rfl⟩
              obtain ⟨es2, c2, m1, m2, m3⟩ := upd_rel (Q := fun x v => OwnS (μ.put i { p with own := fun g => p.own g ∨ g = q.blk }) z { p with own := fun g => p.own g ∨ g = q.blk } { w with heap := w.heap.setIfInBounds p.blk (updObj es' c .i64 n (.slice (some ⟨q.blk, q.base + 0, none⟩) n0 c') r') } x v) (x := cs) (v' := .slice (some ⟨q.blk, q.base + 0, none⟩) n0 c') (c := c) h4.1
                (fun j e hj => let ⟨e', a, b, c⟩ := h4.2.1 j e hj; ⟨e', a, b, hst _ _ _ _ hle (fun g hg => map_other hg) c⟩)
                (.inr ⟨q.blk, q.base + 0, n0, c', cur, e0, rfl, hn0, (map_other hqp).trans r2, by omega, r9, .inr rfl, hqp, hnc⟩) k2
              have hD := dist p w cs es2 c2 m1 (fun _ j e hj x hx hx2 => by
                obtain ⟨e2, n1, n2, n3⟩ := h4.2.1 j x hx
                rw [hj] at n1; cases n1
                rcases n3 with ⟨_, _, n3, _⟩ | ⟨b, o, n', c', cur, e3, g1, g2, g3, g4, g5, g6, g7⟩
                · exact absurd n3 hx2
                · rw [g1]
                  simp only [blkOf, ne_eq, Option.some.injEq]
                  intro e4
                  exact hqb (by rw [← e4]; exact g6))
              obtain ⟨n1, n2⟩ := h.absorb hg hgk ht1 ht2 hp r1 (w0.upd _ _ _ h.below (h6 _ h3) map_off) (by simp) (by rw [m1]; exact map_block h2) (fun g hg' => map_other hg') ⟨m2, m3, hD⟩
              exact ⟨_, _, hrun, n1, R.same (s := { s with h := t2 }) n2 rfl q1.next q1.ng⟩
            · cases hu
          · cases hu
      · cases hu
    · cases hu
  · cases hu

end
end Go.Hx
