/- The executor's steps on memory, and that the model's instructions do as they say. -/
import Derived.Test.YtpjfmjemmphheadGreatDoorHx2b
namespace Go.Hx
open Go Go.RowKit

section
variable {η : Env} {w0 : Base} {μ : Mu} {s : St} {w : World} {P : Program}

theorem VR.cells {v v' : Value} (h : VR η μ v v') : VRs η μ v.cells.toList v'.cells.toList := by
  cases v with
  | agg cs => cases h with | agg h => exact h
  | chan r =>
    have h' := h
    cases h with
    | @vtok i p hp hv =>
      have e : p.val.cells = #[p.val] := by
        cases hx : p.val <;> rw [hx] at hv <;> first | rfl | cases hv
      rw [e]
      exact .cons h' .nil
  | _ => exact (by have h' := h; cases h <;> exact .cons h' .nil)

theorem VR.oneCell {v v' : Value} (h : VR η μ v v') : v'.oneCell' = v.oneCell' := by cases h <;> first | rfl | assumption

theorem VRs.oneCell {l l' : List Value} (h : VRs η μ l l') (ho : l.all Value.oneCell' = true) : ∀ v ∈ l', v.oneCell' = true := by
  induction l generalizing l' with
  | nil => cases h; intro v hv; cases hv
  | cons a l ih =>
    cases h with
    | cons h t =>
      simp only [List.all_cons, Bool.and_eq_true] at ho
      intro v hv
      cases hv with
      | head => rw [h.oneCell]; exact ho.1
      | tail _ hm => exact ih t ho.2 v hm

theorem add_plain' (b o j : Nat) : (⟨b, o, none⟩ : Addr).add j = ⟨b, o + j, none⟩ := by unfold Addr.add; split <;> simp_all

/-! ### Reading -/
def rd (s : St) (i o n : Nat) : Option (List Value) :=
  match s.h.get i with
  | some (.row c _) => bif Nat.ble (o + n) c.length then some ((c.drop o).take n) else none
  | some (.ro c) => bif Nat.ble (o + n) c.length then some ((c.drop o).take n) else none
  | some (.lk c) => bif Nat.ble (o + n) c.length then some ((c.drop o).take n) else none
  | some (.el c) => bif Nat.ble (o + n) c.length then some ((c.drop o).take n) else none
  | some (.win c _) => bif Nat.ble (o + n) c.length then some ((c.drop o).take n) else none
  | _ => none

theorem cell_at (h : R η w0 μ s w) {i : Nat} {c : List Value} (hi : (∃ e, s.h.get i = some (.row c e)) ∨ s.h.get i = some (.ro c) ∨ s.h.get i = some (.lk c) ∨ s.h.get i = some (.el c) ∨ ∃ e, s.h.get i = some (.win c e)) :
    ∃ p, μ i = some p ∧ ∀ (j : Nat) (v : Value), c[j]? = some v → ∃ v', w.cell? ⟨p.blk, p.base + j, none⟩ = some v' ∧ VR η μ v v' := by
  rcases hi with ⟨e, hi⟩ | hi | hi | hi | ⟨e, hi⟩
  · obtain ⟨p, cur, h1, h2, h3, h4, h5, h6⟩ := h.row i c e hi
    refine ⟨p, h1, fun j v hj => ?_⟩
    obtain ⟨v', h7, h8⟩ := h6 j v hj
    exact ⟨v', (cell_of_row w p.blk (p.base + j) cur e (0, 0) h2).trans h7, h8⟩
  · obtain ⟨p, h1, _, h3⟩ := h.ro i c hi
    exact ⟨p, h1, h3⟩
  · obtain ⟨p, h1, _, h3⟩ := h.lk i c hi
    exact ⟨p, h1, h3⟩
  · obtain ⟨p, h1, _, h3⟩ := h.elc i c hi
    exact ⟨p, h1, h3⟩
  · obtain ⟨p, cur, h1, h2, h3, h6, _⟩ := h.winc i c e hi
    refine ⟨p, h1, fun j v hj => ?_⟩
    obtain ⟨v', h7, h8⟩ := h6 j v hj
    exact ⟨v', (cell_of_row w p.blk (p.base + j) cur e (0, 0) h2).trans h7, h8⟩

theorem ble_le {a b : Nat} (h : Nat.ble a b = true) : a ≤ b := Nat.le_of_ble_eq_true h

theorem rd_sound (h : R η w0 μ s w) {i o n : Nat} {l : List Value} (hl : rd s i o n = some l) :
    ∃ p l', μ i = some p ∧ l.length = n ∧ l'.length = n ∧ VRs η μ l l' ∧ ∀ (j : Nat) (v : Value), l'[j]? = some v → w.cell? ((⟨p.blk, p.base + o, none⟩ : Addr).add j) = some v := by
  have key : ∀ c : List Value, ((∃ e, s.h.get i = some (.row c e)) ∨ s.h.get i = some (.ro c) ∨ s.h.get i = some (.lk c) ∨ s.h.get i = some (.el c) ∨ ∃ e, s.h.get i = some (.win c e)) → o + n ≤ c.length → l = (c.drop o).take n →
      ∃ p l', μ i = some p ∧ l.length = n ∧ l'.length = n ∧ VRs η μ l l' ∧ ∀ (j : Nat) (v : Value), l'[j]? = some v → w.cell? ((⟨p.blk, p.base + o, none⟩ : Addr).add j) = some v := by
    intro c hc hn he
    obtain ⟨p, hp, hcell⟩ := cell_at h hc
    have hlen : l.length = n := by subst he; simp; omega
    refine ⟨p, (List.range n).map (fun j => (w.cell? ⟨p.blk, p.base + (o + j), none⟩).getD undef), hp, hlen, by simp, VRs.of_get (by simp [hlen]) ?_, ?_⟩
    · intro j v v' hv hv'
      have hj : j < n := by
        rcases Nat.lt_or_ge j l.length with h' | h'
        · omega
        · rw [List.getElem?_eq_none h'] at hv; cases hv
      have hv2 : c[o + j]? = some v := by
        subst he
        rw [List.getElem?_take, if_pos hj, List.getElem?_drop] at hv
        exact hv
      obtain ⟨u, h1, h2⟩ := hcell _ _ hv2
      simp only [List.getElem?_map, List.getElem?_range hj, Option.map_some, Option.some.injEq] at hv'
      rw [h1] at hv'
      simp at hv'
      subst hv'
      exact h2
    · intro j v hv
      have hj : j < n := by
        rcases Nat.lt_or_ge j n with h' | h'
        · exact h'
        · rw [List.getElem?_eq_none (by simpa using h')] at hv; cases hv
      simp only [List.getElem?_map, List.getElem?_range hj, Option.map_some, Option.some.injEq] at hv
      have hc2 : c[o + j]? = some (c[o + j]'(by omega)) := List.getElem?_eq_getElem (by omega)
      obtain ⟨u, h1, _⟩ := hcell _ _ hc2
      rw [h1] at hv
      simp at hv
      subst hv
      rw [add_plain', Nat.add_assoc]
      exact h1
  unfold rd at hl
  split at hl
  · rename_i c e hg
    cases hb : Nat.ble (o + n) c.length with
    | false => rw [hb] at hl; simp at hl
    | true =>
      rw [hb] at hl
      simp only [cond_true, Option.some.injEq] at hl
      exact key c (.inl ⟨e, hg⟩) (ble_le hb) hl.symm
  · rename_i c hg
    cases hb : Nat.ble (o + n) c.length with
    | false => rw [hb] at hl; simp at hl
    | true =>
      rw [hb] at hl
      simp only [cond_true, Option.some.injEq] at hl
      exact key c (.inr (.inl hg)) (ble_le hb) hl.symm
  · rename_i c hg
    cases hb : Nat.ble (o + n) c.length with
    | false => rw [hb] at hl; simp at hl
    | true =>
      rw [hb] at hl
      simp only [cond_true, Option.some.injEq] at hl
      exact key c (.inr (.inr (.inl hg))) (ble_le hb) hl.symm
  · rename_i c hg
    cases hb : Nat.ble (o + n) c.length with
    | false => rw [hb] at hl; simp at hl
    | true =>
      rw [hb] at hl
      simp only [cond_true, Option.some.injEq] at hl
      exact key c (.inr (.inr (.inr (.inl hg)))) (ble_le hb) hl.symm
  · rename_i c e hg
    cases hb : Nat.ble (o + n) c.length with
    | false => rw [hb] at hl; simp at hl
    | true =>
      rw [hb] at hl
      simp only [cond_true, Option.some.injEq] at hl
      exact key c (.inr (.inr (.inr (.inr ⟨e, hg⟩)))) (ble_le hb) hl.symm
  · cases hl

def isAggD : TypeDesc → Bool
  | .struct _ | .array _ _ => true
  | _ => false

def hLoad (P : Program) (s : St) (t : TypeId) (v : Value) : Option Value :=
  match v with
  | .pointer (some ⟨i, o, none⟩) =>
    match P.underlying t with
    | none => none
    | some d => bif isAggD d then
        match P.info? t with
        | some f => (rd s i o f.size).map fun l => .agg ⟨l⟩
        | none => none
      else match rd s i o 1 with
        | some [x] => some x
        | _ => none
  | _ => none

theorem run_isAgg {t : TypeId} {d : TypeDesc} (h : P.underlying t = some d) (w : World) : (isAgg t).run P w = .ok (isAggD d) w := by
  unfold isAgg
  rw [Sem.run_bind, run_underlying h w]
  cases d <;> rfl

theorem load_sound (h : R η w0 μ s w) {t : TypeId} {v r v' : Value} (hl : hLoad P s t v = some r) (hv : VR η μ v v') :
    ∃ r', (Instr.loadAt t v').run P w = .ok r' w ∧ VR η μ r r' := by
  unfold hLoad at hl
  split at hl
  · rename_i i o
    cases hu : P.underlying t with
    | none => simp only [hu] at hl; cases hl
    | some d =>
      simp only [hu] at hl
      cases hv with
      | ptr hp =>
        rename_i p
        cases hd : isAggD d with
        | true =>
          simp only [hd, cond_true] at hl
          cases hi : P.info? t with
          | none => simp only [hi] at hl; cases hl
          | some f =>
            simp only [hi, Option.map_eq_some_iff] at hl
            obtain ⟨l, hl, rfl⟩ := hl
            obtain ⟨p', l', h1, h2, h3, h4, h5⟩ := rd_sound h hl
            rw [hp] at h1; cases h1
            have hrun := run_loadCells_list (P := P) w ⟨p.blk, p.base + o, none⟩ l' h5
            rw [h3] at hrun
            refine ⟨.agg l'.toArray, ?_, .agg h4⟩
            simp [Instr.loadAt, Instr.sureAddr, loadVar, run_isAgg hu, hd, sizeOf, typeInfo, hi, hrun]
        | false =>
          simp only [hd, cond_false] at hl
          split at hl
          · rename_i x hx
            simp only [Option.some.injEq] at hl
            subst hl
            obtain ⟨p', l', h1, h2, h3, h4, h5⟩ := rd_sound h hx
            rw [hp] at h1; cases h1
            cases h4 with
            | cons h6 h7 =>
              rename_i x' l''
              have := h5 0 x' rfl
              rw [add_plain'] at this
              refine ⟨x', ?_, h6⟩
              simp only [Nat.add_zero] at this
              simp [Instr.loadAt, Instr.sureAddr, loadVar, run_isAgg hu, hd, this]
          · cases hl
  · cases hl

/-! ### New rows -/
def hNew (s : St) (c : List Value) (e : TypeId) : Option (Nat × St) :=
  (Tr.set 64 s.h s.next (.row c e)).map fun t => (s.next, { s with h := t, next := s.next + 1 })

theorem new_sound (h : R η w0 μ s w) {c : List Value} {e : TypeId} {i : Nat} {s' : St} (hn : hNew s c e = some (i, s')) {cur : Array Value} (hc : c.length ≤ cur.size) (hcs : CsR η μ c cur 0) :
    ∃ μ', μ.le μ' ∧ R η w0 μ' s' (w.alloc (.cells cur e)) ∧ μ' i = some ⟨w.heap.size, 0, cur.size, undef⟩ := by
  unfold hNew at hn
  simp only [Option.map_eq_some_iff, Prod.mk.injEq] at hn
  obtain ⟨t, ht, rfl, rfl⟩ := hn
  exact ⟨_, Mu.put_le (h.fresh _ (Nat.le_refl _)), h.alloc c e ht cur hc hcs, Mu.put_same _ _ _⟩

theorem CsR.of_vrs {l : List Value} {cur : Array Value} (h : VRs η μ l cur.toList) : CsR η μ l cur 0 := fun j v hj => by
  obtain ⟨v', h1, h2⟩ := h.get j v hj
  exact ⟨v', by simpa using h1, h2⟩

/-! ### Writing -/
def hStore (P : Program) (s : St) (t : TypeId) (a v : Value) : Option St :=
  match a with
  | .pointer (some ⟨i, o, none⟩) =>
    match P.info? t with
    | none => none
    | some f =>
      bif Nat.beq v.cells.toList.length f.size && v.cells.toList.all Value.oneCell' then
        match s.h.get i with
        | some (.row c e) => bif Nat.ble (o + v.cells.toList.length) c.length then
            (Tr.set 64 s.h i (.row (c.take o ++ v.cells.toList ++ c.drop (o + v.cells.toList.length)) e)).map fun t => { s with h := t }
          else none
        | some (.win c e) => bif Nat.ble (o + v.cells.toList.length) c.length then
            (Tr.set 64 s.h i (.win (c.take o ++ v.cells.toList ++ c.drop (o + v.cells.toList.length)) e)).map fun t => { s with h := t }
          else none
        | _ => none
      else none
  | _ => none

theorem off_setRow (w : World) (g : Nat) (cs : Array Value) : Off g w (w.setRow g cs) :=
  ⟨rfl, rfl, rfl, by simp [World.setRow], fun k hk => setRow_other w g k cs hk⟩

theorem written {c cs cs' : List Value} {cur : Array Value} {b o : Nat} (hcs : CsR η μ c cur b) (hw : VRs η μ cs cs') (ho : o + cs.length ≤ c.length) (hb : b + c.length ≤ cur.size) :
    CsR η μ (c.take o ++ cs ++ c.drop (o + cs.length)) (cur.toList.take (b + o) ++ cs' ++ cur.toList.drop (b + o + cs'.length)).toArray b := by
  intro j v hj
  have hlen := hw.length
  have hto : (c.take o).length = o := by simp; omega
  have htb : (cur.toList.take (b + o)).length = b + o := by simp; omega
  simp only [List.getElem?_toArray]
  by_cases h1 : j < o
  · rw [List.append_assoc, List.getElem?_append_left (by omega), List.getElem?_take, if_pos h1] at hj
    obtain ⟨v', h2, h3⟩ := hcs j v hj
    refine ⟨v', ?_, h3⟩
    rw [List.append_assoc, List.getElem?_append_left (by omega), List.getElem?_take, if_pos (by omega)]
    simpa using h2
  · by_cases h2 : j < o + cs.length
    · rw [List.append_assoc, List.getElem?_append_right (by omega), List.getElem?_append_left (by omega), hto] at hj
      obtain ⟨v', h3, h4⟩ := hw.get _ _ hj
      refine ⟨v', ?_, h4⟩
      rw [List.append_assoc, List.getElem?_append_right (by omega), List.getElem?_append_left (by omega), htb]
      rw [show b + j - (b + o) = j - o by omega]
      exact h3
    · rw [List.append_assoc, List.getElem?_append_right (by omega), List.getElem?_append_right (by omega), hto, List.getElem?_drop] at hj
      rw [show o + cs.length + (j - o - cs.length) = j by omega] at hj
      obtain ⟨v', h3, h4⟩ := hcs j v hj
      refine ⟨v', ?_, h4⟩
      rw [List.append_assoc, List.getElem?_append_right (by omega), List.getElem?_append_right (by omega), htb, List.getElem?_drop]
      rw [show b + o + cs'.length + (b + j - (b + o) - cs'.length) = b + j by omega]
      simpa using h3

theorem store_sound (h : R η w0 μ s w) {t : TypeId} {a v a' v' : Value} {s' : St} (hs : hStore P s t a v = some s') (ha : VR η μ a a') (hv : VR η μ v v') :
    ∃ w', (Instr.storeAt t a' v').run P w = .ok () w' ∧ R η w0 μ s' w' := by
  unfold hStore at hs
  split at hs
  · rename_i i o
    cases hi : P.info? t with
    | none => simp only [hi] at hs; cases hs
    | some f =>
      simp only [hi] at hs
      cases hb : (Nat.beq v.cells.toList.length f.size && v.cells.toList.all Value.oneCell') with
      | false => simp only [hb, cond_false] at hs; cases hs
      | true =>
        simp only [hb, cond_true] at hs
        simp only [Bool.and_eq_true] at hb
        obtain ⟨hb1, hb2⟩ := hb
        have hb1 := (beq_iff _ _).1 hb1
        split at hs
        · rename_i c e hg
          cases hk : Nat.ble (o + v.cells.toList.length) c.length with
          | false => simp only [hk, cond_false] at hs; cases hs
          | true =>
            simp only [hk, cond_true, Option.map_eq_some_iff] at hs
            obtain ⟨tr, htr, rfl⟩ := hs
            have hk := ble_le hk
            cases ha with
            | ptr hp =>
              rename_i p
              obtain ⟨p', cur, h1, h2, h3, h4, h5, h6⟩ := h.row i c e hg
              rw [hp] at h1; cases h1
              have hcv := hv.cells
              have hl := hcv.length
              have hone := hcv.oneCell hb2
              have hrun := run_storeCells_at (P := P) p.blk (p.base + o) e v'.cells.toList 0 cur w h2 (by omega) hone
              simp only [Nat.add_zero] at hrun
              refine ⟨_, ?_, h.write (p := p) (cur' := (cur.toList.take (p.base + o) ++ v'.cells.toList ++ cur.toList.drop (p.base + o + v'.cells.toList.length)).toArray) hg htr hp h2 ?_ ?_
                (written h6 hcv hk (by omega)) (w0.upd _ _ _ h.below h5 (off_setRow _ _ _)) (Nat.le_of_eq (off_setRow _ _ _).size.symm) (setRow_heap w p.blk cur _ e _ h2) (fun g hne => setRow_other w p.blk g _ hne)⟩
              · have hsz : v'.cells.size = f.size := by rw [← hb1, hl]; simp
                simp only [Instr.storeAt, Instr.sureAddr, storeVar, sizeOf, typeInfo, Sem.run_bind, Sem.run_pure, run_program, Result.andThen_ok, hi, hsz, ne_eq, not_true_eq_false, if_false]
                exact hrun
              · have e1 : (cur.toList.take (p.base + o)).length = p.base + o := by rw [List.length_take, Array.length_toList]; omega
                simp only [List.size_toArray, List.length_append, e1, List.length_drop, Array.length_toList]; simp only [Array.length_toList] at hk hl ⊢; omega
              · simp only [List.length_append, List.length_take, List.length_drop]; omega
        · rename_i c e hg
          cases hk : Nat.ble (o + v.cells.toList.length) c.length with
          | false => simp only [hk, cond_false] at hs; cases hs
          | true =>
            simp only [hk, cond_true, Option.map_eq_some_iff] at hs
            obtain ⟨tr, htr, rfl⟩ := hs
            have hk := ble_le hk
            cases ha with
            | ptr hp =>
              rename_i p
              obtain ⟨p', cur, h1, h2, h3, h6, h5⟩ := h.winc i c e hg
              rw [hp] at h1; cases h1
              have hcv := hv.cells
              have hl := hcv.length
              have hone := hcv.oneCell hb2
              have hrun := run_storeCells_at (P := P) p.blk (p.base + o) e v'.cells.toList 0 cur w h2 (by omega) hone
              simp only [Nat.add_zero] at hrun
              have e1 : (cur.toList.take (p.base + o)).length = p.base + o := by rw [List.length_take, Array.length_toList]; omega
              have hsz2 : ((cur.toList.take (p.base + o) ++ v'.cells.toList ++ cur.toList.drop (p.base + o + v'.cells.toList.length)).toArray).size = cur.size := by
                simp only [List.size_toArray, List.length_append, e1, List.length_drop, Array.length_toList]; simp only [Array.length_toList] at hk hl ⊢; omega
              have hoff : OffW p.blk p.base (p.base + c.length) w (w.setRow p.blk (cur.toList.take (p.base + o) ++ v'.cells.toList ++ cur.toList.drop (p.base + o + v'.cells.toList.length)).toArray) := by
                refine ⟨off_setRow _ _ _, fun cur2 e2 hc2 => ?_⟩
                rw [h2] at hc2
                cases hc2
                refine ⟨_, setRow_heap w p.blk cur _ e _ h2, hsz2, fun j hj => ?_⟩
                simp only [List.getElem?_toArray]
                rcases hj with hj | hj
                · rw [List.append_assoc, List.getElem?_append_left (by omega), List.getElem?_take, if_pos (by omega)]
                  simp
                · rw [List.append_assoc, List.getElem?_append_right (by omega), List.getElem?_append_right (by omega), List.getElem?_drop, e1]
                  rw [show p.base + o + v'.cells.toList.length + (j - (p.base + o) - v'.cells.toList.length) = j by omega]
                  simp
              refine ⟨_, ?_, h.writeW (p := p) (cur' := (cur.toList.take (p.base + o) ++ v'.cells.toList ++ cur.toList.drop (p.base + o + v'.cells.toList.length)).toArray) hg htr ?_ hp h2 hsz2
                (written h6 hcv hk (by omega)) (w0.updw _ _ _ _ _ h.below h5 hoff) (Nat.le_of_eq (off_setRow _ _ _).size.symm) (setRow_heap w p.blk cur _ e _ h2) (fun g hne => setRow_other w p.blk g _ hne)⟩
              · have hsz : v'.cells.size = f.size := by rw [← hb1, hl]; simp
                simp only [Instr.storeAt, Instr.sureAddr, storeVar, sizeOf, typeInfo, Sem.run_bind, Sem.run_pure, run_program, Result.andThen_ok, hi, hsz, ne_eq, not_true_eq_false, if_false]
                exact hrun
              · simp only [List.length_append, List.length_take, List.length_drop]; omega
        · cases hs
  · cases hs

end
end Go.Hx
