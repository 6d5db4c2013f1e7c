/- MachineApplies: the plain law of Apply. Conditions: none. -/
import Derived.Test.YtpjfmjemmphheacDoorM9
set_option linter.all false
set_option linter.unusedVariables false
set_option linter.unusedSimpArgs false
namespace Go.Proofs.MA
open Go Go.Hx Go.RowKit Go.Proofs

/-- The objects that are there already. -/
def dupO : List Int → List O → List O
  | _, [] => []
  | S, o :: l => if o.1 ∈ S then o :: dupO S l else dupO (o.1 :: S) l
structure Rep (m : Me) (os : List O) : Prop where
  od : m.od = os.map (·.1)
  at' : ∀ id, lookI m.d id = (findO os id).map (·.2)
  mo : m.mo = dupO [] os

theorem findO_cons (o : O) (l : List O) (id : Int) : findO (o :: l) id = if o.1 = id then some o else findO l id := by
  unfold findO
  rw [List.find?_cons]
  by_cases h : o.1 = id <;> simp [h]
theorem findO_app : ∀ (p q : List O) (id : Int), findO (p ++ q) id = match findO p id with | some x => some x | none => findO q id
  | [], q, id => rfl
  | o :: p, q, id => by
    rw [List.cons_append, findO_cons, findO_cons]
    by_cases h : o.1 = id
    · simp [h]
    · simp only [if_neg h]
      exact findO_app p q id
theorem findO_none : ∀ (p : List O) (id : Int), findO p id = none ↔ id ∉ p.map (·.1)
  | [], id => by simp [findO]
  | o :: p, id => by
    rw [findO_cons]
    by_cases h : o.1 = id
    · simp [h]
    · have h' : ¬ id = o.1 := fun e => h e.symm
      simp only [if_neg h, List.map_cons, List.mem_cons, not_or, h', not_false_eq_true, true_and]
      exact findO_none p id
theorem findO_some {p : List O} {id : Int} {x : O} (h : findO p id = some x) : id ∈ p.map (·.1) := by
  apply Classical.byContradiction
  intro hn
  rw [(findO_none p id).2 hn] at h
  cases h

theorem dupO_snoc : ∀ (p : List O) (S : List Int) (o : O), dupO S (p ++ [o]) = dupO S p ++ if o.1 ∈ S ∨ o.1 ∈ p.map (·.1) then [o] else []
  | [], S, o => by
    simp only [List.nil_append, dupO, List.map_nil, List.not_mem_nil, or_false]
  | x :: p, S, o => by
    simp only [List.cons_append, dupO, List.map_cons, List.mem_cons]
    by_cases hx : x.1 ∈ S
    · rw [if_pos hx, if_pos hx, dupO_snoc p S o, List.cons_append]
      by_cases hxo : o.1 = x.1
      · have : o.1 ∈ S := by rw [hxo]; exact hx
        simp [this]
      · have hh : (o.1 ∈ S ∨ o.1 ∈ p.map (·.1)) = (o.1 ∈ S ∨ o.1 = x.1 ∨ o.1 ∈ p.map (·.1)) := propext ⟨fun h => h.elim .inl (fun h => .inr (.inr h)), fun h => h.elim .inl (fun h => h.elim (fun h => absurd h hxo) .inr)⟩
        exact congrArg (fun l => x :: (dupO S p ++ l)) (ite_congr hh (fun _ => rfl) fun _ => rfl)
    · rw [if_neg hx, if_neg hx, dupO_snoc p (x.1 :: S) o]
      simp only [List.mem_cons, or_assoc, or_left_comm]

theorem rep_load (m : Me) (p : List O) (o : O) (h : Rep m p) : Rep (load1 m o) (p ++ [o]) := by
  have hs := h.at' o.1
  cases hf : findO p o.1 with
  | none =>
    rw [hf] at hs
    have hn := (findO_none p o.1).1 hf
    have : load1 m o = ⟨updI m.d o.1 o.2, m.od ++ [o.1], m.mo⟩ := by unfold load1; rw [hs]; rfl
    rw [this]
    refine ⟨by simp [h.od], fun id => ?_, ?_⟩
    · show lookI (updI m.d o.1 o.2) id = _
      rw [lookI_upd, findO_app]
      by_cases hid : id = o.1
      · subst hid; rw [if_pos rfl, hf]; simp [findO]
      · rw [if_neg hid, h.at']
        cases findO p id with
        | some x => rfl
        | none =>
          have : ¬ o.1 = id := fun e => hid e.symm
          simp [findO, this]
    · show m.mo = _
      rw [dupO_snoc, if_neg (by simpa using hn), h.mo, List.append_nil]
  | some x =>
    rw [hf] at hs
    have hn := findO_some hf
    have : load1 m o = ⟨m.d, m.od ++ [o.1], m.mo ++ [o]⟩ := by unfold load1; rw [hs]; rfl
    rw [this]
    refine ⟨by simp [h.od], fun id => ?_, ?_⟩
    · show lookI m.d id = _
      rw [findO_app, h.at']
      by_cases hid : id = o.1
      · subst hid; rw [hf]
      · cases findO p id with
        | some x => rfl
        | none =>
          have : ¬ o.1 = id := fun e => hid e.symm
          simp [findO, this]
    · show m.mo ++ [o] = _
      rw [dupO_snoc, if_pos (Or.inr hn), h.mo]
theorem rep_loadM (os : List O) : Rep (loadM os) os := by
  have : ∀ (q p : List O) (m : Me), Rep m p → Rep (q.foldl load1 m) (p ++ q) := by
    intro q
    induction q with
    | nil => intro p m h; simpa using h
    | cons o q ih =>
      intro p m h
      have := ih (p ++ [o]) (load1 m o) (rep_load m p o h)
      simpa using this
  exact this os [] ⟨[], [], []⟩ ⟨rfl, fun id => rfl, rfl⟩

/-! ### One object instead of the first with its number -/
theorem findO_set : ∀ (os : List O) (id : Int) (i k : Nat) (fs : List V), atI os id i = ((i + k : Nat) : Int) → (∃ x, findO os id = some x) → ∀ id', findO (os.set k (id, fs)) id' = if id' = id then some (id, fs) else findO os id'
  | [], id, i, k, fs, _, ⟨x, hx⟩, _ => by cases hx
  | o :: l, id, i, k, fs, h, ⟨x, hx⟩, id' => by
    by_cases ho : o.1 = id
    · have hk : k = 0 := by
        simp only [atI, if_pos ho] at h
        omega
      subst hk
      rw [List.set_cons_zero, findO_cons, findO_cons]
      by_cases hid : id' = id
      · simp [hid]
      · have h1 : ¬ id = id' := fun e => hid e.symm
        have h2 : ¬ o.1 = id' := by rw [ho]; exact h1
        simp [hid, h1, h2]
    · rw [findO_cons, if_neg ho] at hx
      simp only [atI, if_neg ho] at h
      obtain ⟨k', hk', _, _⟩ := atI_some l id (i + 1) x hx
      obtain ⟨k, rfl⟩ : ∃ j, k = j + 1 := by
        rw [hk'] at h
        exact ⟨k - 1, by omega⟩
      rw [List.set_cons_succ, findO_cons, findO_cons]
      rw [findO_set l id (i + 1) k fs (by rw [h]; congr 1; omega) ⟨x, hx⟩ id']
      by_cases hid : id' = id
      · subst hid; simp [ho]
      · simp [hid]
theorem dupO_set : ∀ (os : List O) (id : Int) (i k : Nat) (fs : List V) (S : List Int), id ∉ S → atI os id i = ((i + k : Nat) : Int) → (∃ x, findO os id = some x) → dupO S (os.set k (id, fs)) = dupO S os
  | [], id, i, k, fs, S, _, _, ⟨x, hx⟩ => by cases hx
  | o :: l, id, i, k, fs, S, hS, h, ⟨x, hx⟩ => by
    by_cases ho : o.1 = id
    · have hk : k = 0 := by
        simp only [atI, if_pos ho] at h
        omega
      subst hk
      rw [List.set_cons_zero]
      simp only [dupO, ho, if_neg hS]
    · rw [findO_cons, if_neg ho] at hx
      simp only [atI, if_neg ho] at h
      obtain ⟨k', hk', _, _⟩ := atI_some l id (i + 1) x hx
      obtain ⟨k, rfl⟩ : ∃ j, k = j + 1 := by
        rw [hk'] at h
        exact ⟨k - 1, by omega⟩
      rw [List.set_cons_succ]
      simp only [dupO]
      have h' : atI l id (i + 1) = ((i + 1 + k : Nat) : Int) := by rw [h]; congr 1; omega
      by_cases hoS : o.1 ∈ S
      · rw [if_pos hoS, if_pos hoS, dupO_set l id (i + 1) k fs S hS h' ⟨x, hx⟩]
      · rw [if_neg hoS, if_neg hoS, dupO_set l id (i + 1) k fs (o.1 :: S) (fun hm => (List.mem_cons.1 hm).elim (fun e => ho e.symm) hS) h' ⟨x, hx⟩]
theorem map_set_same : ∀ (os : List O) (k : Nat) (o : O), (∃ x, os[k]? = some x ∧ x.1 = o.1) → (os.set k o).map (·.1) = os.map (·.1)
  | [], _, _, ⟨x, h, _⟩ => by simp at h
  | y :: l, 0, o, ⟨x, h, h2⟩ => by
    simp at h
    subst h
    simp [h2]
  | y :: l, k + 1, o, ⟨x, h, h2⟩ => by
    simp only [List.set_cons_succ, List.map_cons]
    rw [map_set_same l k o ⟨x, by simpa using h, h2⟩]
theorem rep_set {m : Me} {os : List O} (h : Rep m os) {id : Int} {x : O} (hx : findO os id = some x) (fs : List V) : Rep ⟨updI m.d id fs, m.od, m.mo⟩ (os.set (atI os id 0).toNat (id, fs)) := by
  obtain ⟨k, h1, h2, h3⟩ := atI_some os id 0 x hx
  rw [Nat.zero_add] at h1
  have hk : (atI os id 0).toNat = k := by rw [h1]; omega
  rw [hk]
  refine ⟨?_, fun id' => ?_, ?_⟩
  · show m.od = _
    rw [map_set_same os k _ ⟨x, h2, h3⟩, h.od]
  · show lookI (updI m.d id fs) id' = _
    rw [lookI_upd, findO_set os id 0 k fs (by rw [h1]; congr 1; omega) ⟨x, hx⟩, h.at']
    by_cases hid : id' = id <;> simp [hid]
  · show m.mo = _
    rw [dupO_set os id 0 k fs [] (by simp) (by rw [h1]; congr 1; omega) ⟨x, hx⟩, h.mo]

theorem putO_set {os : List O} {o x : O} (hx : findO os o.1 = some x) : putO os o = os.set (atI os o.1 0).toNat (o.1, o.2) := by
  obtain ⟨k, h1, h2, h3⟩ := atI_some os o.1 0 x hx
  rw [Nat.zero_add] at h1
  have hlt : k < os.length := by
    rcases Nat.lt_or_ge k os.length with h | h
    · exact h
    · rw [List.getElem?_eq_none h] at h2; cases h2
  unfold putO
  rw [if_pos (by rw [h1]; omega)]
  have hk : (atI os o.1 0).toNat = k := by rw [h1]; omega
  rw [hk, List.set_eq_take_append_cons_drop, if_pos hlt]

/-! ### A new object -/
theorem lead_gt : ∀ (os : List O) (id : Int) (i : Nat), id ∉ os.map (·.1) → (gtI (os.map (·.1)) id i = -1 ∧ leadO os id = os.length) ∨ (gtI (os.map (·.1)) id i = ((i + leadO os id : Nat) : Int) ∧ leadO os id < os.length)
  | [], _, _, _ => .inl ⟨rfl, rfl⟩
  | o :: l, id, i, h => by
    simp only [List.map_cons, List.mem_cons, not_or] at h
    simp only [List.map_cons, gtI, leadO, List.length_cons]
    by_cases hg : o.1 > id
    · have : ¬ o.1 < id := by omega
      rw [if_pos hg, if_neg this]
      exact .inr ⟨rfl, by omega⟩
    · have : o.1 < id := by have := h.1; omega
      rw [if_neg hg, if_pos this]
      rcases lead_gt l id (i + 1) h.2 with ⟨h1, h2⟩ | ⟨h1, h2⟩
      · exact .inl ⟨h1, by rw [h2]⟩
      · refine .inr ⟨?_, by omega⟩
        rw [h1]; congr 1; omega
theorem dupO_ins : ∀ (p q : List O) (o : O) (S S' : List Int), (∀ x, x ∈ S' ↔ x ∈ S ∨ x = o.1) → o.1 ∉ S → o.1 ∉ p.map (·.1) → o.1 ∉ q.map (·.1) → dupO S (p ++ o :: q) = dupO S (p ++ q)
  | [], q, o, S, _, _, hS, _, hq => by
    simp only [List.nil_append, dupO, if_neg hS]
    have : ∀ (q : List O) (S S' : List Int), (∀ x, x ∈ S' ↔ x ∈ S ∨ x = o.1) → o.1 ∉ q.map (·.1) → dupO S' q = dupO S q := by
      intro q
      induction q with
      | nil => intros; rfl
      | cons y q ih =>
        intro S S' hS' hq
        simp only [List.map_cons, List.mem_cons, not_or] at hq
        have hy : y.1 ∈ S' ↔ y.1 ∈ S := by
          rw [hS']
          exact ⟨fun h => h.elim id fun e => absurd e.symm hq.1, Or.inl⟩
        simp only [dupO]
        by_cases hyS : y.1 ∈ S
        · rw [if_pos hyS, if_pos (hy.2 hyS), ih S S' hS' hq.2]
        · rw [if_neg hyS, if_neg (fun h => hyS (hy.1 h))]
          refine ih (y.1 :: S) (y.1 :: S') (fun x => ?_) hq.2
          simp only [List.mem_cons, hS', or_assoc]
    exact this q S (o.1 :: S) (fun x => by simp [or_comm]) hq
  | y :: p, q, o, S, S', hS', hS, hp, hq => by
    simp only [List.map_cons, List.mem_cons, not_or] at hp
    simp only [List.cons_append, dupO]
    by_cases hy : y.1 ∈ S
    · rw [if_pos hy, if_pos hy, dupO_ins p q o S S' hS' hS hp.2 hq]
    · rw [if_neg hy, if_neg hy]
      exact dupO_ins p q o (y.1 :: S) (o.1 :: y.1 :: S) (fun x => by simp only [List.mem_cons]; exact ⟨fun h => h.elim .inr fun h => .inl h, fun h => h.elim .inr .inl⟩) (by simp [hS, hp.1]) hp.2 hq
theorem rep_new {m : Me} {os : List O} (h : Rep m os) (o : O) : Rep (new1 m o) (putO os o) := by
  have hs := h.at' o.1
  cases hf : findO os o.1 with
  | some x =>
    rw [hf] at hs
    have : new1 m o = ⟨updI m.d o.1 o.2, m.od, m.mo⟩ := by unfold new1; rw [hs]; rfl
    rw [this, putO_set hf]
    exact rep_set h hf o.2
  | none =>
    rw [hf] at hs
    have hn := (findO_none os o.1).1 hf
    have : new1 m o = ⟨updI m.d o.1 o.2, insO m.od o.1, m.mo⟩ := by unfold new1; rw [hs]; rfl
    have hp : putO os o = os.take (leadO os o.1) ++ o :: os.drop (leadO os o.1) := by
      unfold putO
      rw [if_neg (by rw [atI_none os o.1 0 hf]; omega)]
    have hmem : ∀ k, o.1 ∉ (os.take k).map (·.1) ∧ o.1 ∉ (os.drop k).map (·.1) := fun k => by
      constructor
      · intro hh
        obtain ⟨y, h1, h2⟩ := List.mem_map.1 hh
        exact hn (List.mem_map.2 ⟨y, List.mem_of_mem_take h1, h2⟩)
      · intro hh
        obtain ⟨y, h1, h2⟩ := List.mem_map.1 hh
        exact hn (List.mem_map.2 ⟨y, List.mem_of_mem_drop h1, h2⟩)
    rw [this, hp]
    refine ⟨?_, fun id => ?_, ?_⟩
    · show insO m.od o.1 = _
      rw [h.od]
      unfold insO
      rcases lead_gt os o.1 0 hn with ⟨h1, h2⟩ | ⟨h1, h2⟩
      · rw [h1, if_pos (by omega), h2]
        simp
      · rw [Nat.zero_add] at h1
        rw [h1, if_neg (by omega)]
        unfold insI
        simp [List.map_take, List.map_drop]
    · show lookI (updI m.d o.1 o.2) id = _
      rw [lookI_upd, findO_app, findO_cons]
      by_cases hid : id = o.1
      · subst hid
        rw [if_pos rfl, (findO_none _ _).2 (hmem _).1]
        simp
      · have h1 : ¬ o.1 = id := fun e => hid e.symm
        rw [if_neg hid, if_neg h1, h.at']
        have := findO_app (os.take (leadO os o.1)) (os.drop (leadO os o.1)) id
        rw [List.take_append_drop] at this
        rw [this]
    · show m.mo = _
      rw [dupO_ins _ _ o [] [o.1] (by simp) (by simp) (hmem _).1 (hmem _).2, List.take_append_drop, h.mo]
theorem rep_news {m : Me} {os : List O} (h : Rep m os) (l : List O) : Rep (l.foldl new1 m) (l.foldl putO os) := by
  induction l generalizing m os with
  | nil => exact h
  | cons o l ih => exact ih (rep_new h o)

/-! ### A write -/
def wr1M (m : Me) (c : C4) : Me := match lookI m.d c.1 with
  | some fs => if 0 ≤ c.2.1 ∧ c.2.1 < fs.length then ⟨updI m.d c.1 (fs.set c.2.1.toNat c.2.2), m.od, m.mo⟩ else m
  | none => m
theorem rep_wr {m : Me} {os : List O} (h : Rep m os) (c : C4) : Rep (wr1M m c) (wr1 os c) := by
  have hs := h.at' c.1
  unfold wr1M wr1 wrO rdI
  cases hf : findO os c.1 with
  | none =>
    rw [hf] at hs
    rw [hs]
    exact h
  | some x =>
    rw [hf] at hs
    rw [hs]
    obtain ⟨k, h1, h2, h3⟩ := atI_some os c.1 0 x hf
    simp only [Option.map_some, Option.bind_some]
    by_cases hc : 0 ≤ c.2.1 ∧ c.2.1 < x.2.length
    · rw [if_pos hc, if_pos hc.1]
      have : (x.2[c.2.1.toNat]?).isSome = true := by
        rw [List.getElem?_eq_getElem (by omega)]; rfl
      rw [if_pos this, h3]
      exact rep_set h hf _
    · rw [if_neg hc]
      have : ¬ ((if 0 ≤ c.2.1 then x.2[c.2.1.toNat]? else none).isSome = true) := by
        by_cases h0 : 0 ≤ c.2.1
        · rw [if_pos h0, List.getElem?_eq_none (by omega)]
          simp
        · rw [if_neg h0]; simp
      rw [if_neg this]
      exact h
theorem rep_wrs {m : Me} {os : List O} (h : Rep m os) (l : List C4) : Rep (l.foldl wr1M m) (l.foldl wr1 os) := by
  induction l generalizing m os with
  | nil => exact h
  | cons o l ih => exact ih (rep_wr h o)

/-! ### Back to a heap -/
theorem heap_back (d : List (Int × List V)) : ∀ (os : List O) (S : List Int) (sn : List (Int × Value)), (∀ id, (lookI sn id).isSome = true ↔ id ∈ S) → (∀ id, id ∉ S → lookI d id = (findO os id).map (·.2)) → (∀ o ∈ os, SmV o.2) →
    heapL d (os.map (·.1)) sn (dupO S os) = os ∧ heapP d (os.map (·.1)) sn (dupO S os)
  | [], _, _, _, _, _ => ⟨rfl, trivial⟩
  | o :: l, S, sn, hS, hd, hv => by
    have hvl : ∀ o ∈ l, SmV o.2 := fun x hx => hv x (List.mem_cons_of_mem _ hx)
    have hrest : ∀ S' : List Int, o.1 ∈ S' → (∀ x, x ∈ S → x ∈ S') → ∀ id, id ∉ S' → lookI d id = (findO l id).map (·.2) := fun S' ho hss id hid => by
      rw [hd id (fun h => hid (hss id h)), findO_cons, if_neg (fun e : o.1 = id => hid (e ▸ ho))]
    simp only [List.map_cons, heapL, heapP, dupO]
    by_cases ho : o.1 ∈ S
    · obtain ⟨v, hv'⟩ := Option.isSome_iff_exists.1 ((hS o.1).2 ho)
      rw [if_pos ho, hv']
      obtain ⟨h1, h2⟩ := heap_back d l S sn hS (hrest S ho fun _ h => h) hvl
      exact ⟨by show (o.1, o.2) :: _ = _; rw [h1], hv o List.mem_cons_self, h2⟩
    · have hn : lookI sn o.1 = none := by
        cases hh : lookI sn o.1 with
        | none => rfl
        | some v => exact absurd ((hS o.1).1 (by rw [hh]; rfl)) ho
      rw [if_neg ho, hn]
      have hS' : ∀ id, (lookI (updI sn o.1 (.bool true)) id).isSome = true ↔ id ∈ o.1 :: S := fun id => by
        rw [lookI_upd, List.mem_cons]
        by_cases hid : id = o.1
        · simp [hid]
        · rw [if_neg hid, hS]; simp [hid]
      obtain ⟨h1, h2⟩ := heap_back d l (o.1 :: S) (updI sn o.1 (.bool true)) hS' (hrest _ List.mem_cons_self fun _ h => List.mem_cons_of_mem _ h) hvl
      have hlo : lookI d o.1 = some o.2 := by rw [hd o.1 ho, findO_cons, if_pos rfl]; rfl
      exact ⟨by show (o.1, (lookI d o.1).getD []) :: _ = _; rw [h1, hlo]; rfl, ⟨o.2, hlo, hv o List.mem_cons_self⟩, h2⟩

/-- What Apply leaves in the memory, read as a heap. -/
def apM (os : List O) (e : Eff) : Me := e.ws.foldl wr1M (e.nw.foldl new1 (loadM os))
theorem apM_heap (os : List O) (e : Eff) (hs : ∀ o ∈ apO os e, SmV o.2) : heapL (apM os e).d (apM os e).od [] (apM os e).mo = apO os e ∧ heapP (apM os e).d (apM os e).od [] (apM os e).mo := by
  have h : Rep (apM os e) (apO os e) := rep_wrs (rep_news (rep_loadM os) e.nw) e.ws
  rw [h.od, h.mo]
  exact heap_back _ _ [] [] (by simp [lookI, ixI]) (fun id _ => h.at' id) hs
theorem apM_od (os : List O) (e : Eff) : (apM os e).od = (apO os e).map (·.1) ∧ (apM os e).mo = dupO [] (apO os e) :=
  have h : Rep (apM os e) (apO os e) := rep_wrs (rep_news (rep_loadM os) e.nw) e.ws
  ⟨h.od, h.mo⟩
end Go.Proofs.MA
