/- The abstract heap and the model's world: what each primitive step does to the relation. -/
import Derived.Test.YtpjfmjemmphheaaDoorHx1
namespace Go.Hx
open Go Go.RowKit

inductive HObj where
  | row (c : List Value) (e : TypeId)
  | ro (c : List Value)
  | map (es : List MapEntry) (clock : Nat)
  | dead

structure St where
  h : Tr HObj
  next : Nat
  lo : Nat
  ng : Nat

def EsR (η : Int → Int) (μ : Mu) (es es' : List MapEntry) : Prop :=
  es.length = es'.length ∧ ∀ (j : Nat) (e : MapEntry), es[j]? = some e → ∃ e', es'[j]? = some e' ∧ VR η μ e.key e'.key ∧ VR η μ e.val e'.val ∧ e.born = e'.born

def CsR (η : Int → Int) (μ : Mu) (c : List Value) (cur : Array Value) (base : Nat) : Prop :=
  ∀ (j : Nat) (v : Value), c[j]? = some v → ∃ v', cur[base + j]? = some v' ∧ VR η μ v v'

structure R (η : Int → Int) (w0 : World) (μ : Mu) (s : St) (w : World) : Prop where
  below : Below w0.heap.size w0 w
  fresh : ∀ i, s.next ≤ i → μ i = none
  row : ∀ i c e, s.h.get i = some (.row c e) → ∃ p cur, μ i = some p ∧ w.heap[p.blk]? = some (.cells cur e (0, 0)) ∧ p.base + p.room = cur.size ∧ c.length ≤ p.room ∧
    (s.lo ≤ i → w0.heap.size ≤ p.blk) ∧ CsR η μ c cur p.base
  inj : ∀ i j c e c' e' p q, s.h.get i = some (.row c e) → s.h.get j = some (.row c' e') → μ i = some p → μ j = some q → p.blk = q.blk → i = j
  ro : ∀ i c, s.h.get i = some (.ro c) → ∃ p, μ i = some p ∧ p.blk < w0.heap.size ∧ ∀ (j : Nat) (v : Value), c[j]? = some v → ∃ v', w.cell? ⟨p.blk, p.base + j, none⟩ = some v' ∧ VR η μ v v'
  map : ∀ i es k, s.h.get i = some (.map es k) → ∃ p es', μ i = some p ∧ w.heap[p.blk]? = some (.map es' k) ∧ (s.lo ≤ i → w0.heap.size ≤ p.blk) ∧ EsR η μ es es'.toList
  minj : ∀ i j es k es' k' p q, s.h.get i = some (.map es k) → s.h.get j = some (.map es' k') → μ i = some p → μ j = some q → p.blk = q.blk → i = j
  gl : ∀ g, g < s.ng → ∃ r, μ g = some ⟨g, 0, r⟩

def Mu.put (μ : Mu) (i : Nat) (p : Place) : Mu := fun j => if j = i then some p else μ j
theorem Mu.put_le {μ : Mu} {i : Nat} {p : Place} (h : μ i = none) : μ.le (μ.put i p) := fun j q hj => by
  unfold Mu.put
  by_cases hji : j = i
  · subst hji; rw [h] at hj; cases hj
  · rw [if_neg hji]; exact hj
theorem Mu.put_same (μ : Mu) (i : Nat) (p : Place) : (μ.put i p) i = some p := by simp [Mu.put]
theorem Mu.put_other {μ : Mu} {i j : Nat} {p : Place} (h : j ≠ i) : (μ.put i p) j = μ j := by simp [Mu.put, h]

theorem CsR.mono {η : Int → Int} {μ ν : Mu} (h : μ.le ν) {c : List Value} {cur : Array Value} {b : Nat} (k : CsR η μ c cur b) : CsR η ν c cur b := fun j v hj =>
  let ⟨v', h1, h2⟩ := k j v hj
  ⟨v', h1, h2.mono h⟩
theorem EsR.mono {η : Int → Int} {μ ν : Mu} (h : μ.le ν) {es es' : List MapEntry} (k : EsR η μ es es') : EsR η ν es es' :=
  ⟨k.1, fun j e hj => let ⟨e', h1, h2, h3, h4⟩ := k.2 j e hj; ⟨e', h1, h2.mono h, h3.mono h, h4⟩⟩

section
variable {η : Int → Int} {w0 : World} {μ : Mu} {s : St} {w : World}

theorem block_lt {w : World} {g : Nat} {o : Obj} (h : w.heap[g]? = some o) : g < w.heap.size := by
  rcases Nat.lt_or_ge g w.heap.size with h' | h'
  · exact h'
  · rw [Array.getElem?_eq_none h'] at h; cases h

/-- New blocks beside (what was there is as it was). -/
theorem R.garbage {w' : World} (h : R η w0 μ s w) (hb : Below w.heap.size w w') : R η w0 μ s w' where
  below := h.below.trans (hb.mono h.below.size)
  fresh := h.fresh
  row := fun i c e hi => by
    obtain ⟨p, cur, h1, h2, h3, h4, h5, h6⟩ := h.row i c e hi
    exact ⟨p, cur, h1, (hb.block _ (block_lt h2)).trans h2, h3, h4, h5, h6⟩
  inj := h.inj
  ro := fun i c hi => by
    obtain ⟨p, h1, h2, h3⟩ := h.ro i c hi
    refine ⟨p, h1, h2, fun j v hj => ?_⟩
    obtain ⟨v', h4, h5⟩ := h3 j v hj
    exact ⟨v', (hb.cell (Nat.lt_of_lt_of_le h2 h.below.size)).trans h4, h5⟩
  map := fun i es k hi => by
    obtain ⟨p, es', h1, h2, h3, h4⟩ := h.map i es k hi
    exact ⟨p, es', h1, (hb.block _ (block_lt h2)).trans h2, h3, h4⟩
  minj := h.minj
  gl := h.gl

theorem R.drew (h : R η w0 μ s w) : R η w0 μ s w.drew := h.garbage ((Below.refl _ _).drew)

/-- A new row. -/
theorem R.alloc (h : R η w0 μ s w) {t : Tr HObj} {d : Nat} (c : List Value) (e : TypeId) (ht : Tr.set d s.h s.next (.row c e) = some t) (cur : Array Value) (hc : c.length ≤ cur.size)
    (hcs : CsR η μ c cur 0) : R η w0 (μ.put s.next ⟨w.heap.size, 0, cur.size⟩) { s with h := t, next := s.next + 1 } (w.alloc (.cells cur e)) := by
  have hg := Tr.get_set d s.h t s.next (.row c e) ht
  have hle : μ.le (μ.put s.next ⟨w.heap.size, 0, cur.size⟩) := Mu.put_le (h.fresh _ (Nat.le_refl _))
  have hb : Below w.heap.size w (w.alloc (.cells cur e)) := (Below.refl _ _).alloc (Nat.le_refl _) _
  have hR := h.garbage hb
  have old : ∀ i p, i ≠ s.next → (μ.put s.next ⟨w.heap.size, 0, cur.size⟩) i = some p → μ i = some p := fun i p hi hp => by rwa [Mu.put_other hi] at hp
  have hlt : ∀ i c e p, s.h.get i = some (.row c e) → μ i = some p → p.blk < w.heap.size := fun i c e p hi hp => by
    obtain ⟨q, cur, h1, h2, _⟩ := h.row i c e hi
    rw [h1] at hp; cases hp
    exact block_lt h2
  refine ⟨hR.below, fun i hi => ?_, fun i c' e' hi => ?_, fun i j ci ei cj ej p q hi hj hp hq hpq => ?_, fun i c' hi => ?_, fun i es k hi => ?_, fun i j es k es' k' p q hi hj hp hq hpq => ?_, fun g hg' => let ⟨r, hr⟩ := h.gl g hg'; ⟨r, hle _ _ hr⟩⟩
  · have : s.next + 1 ≤ i := hi
    rw [Mu.put_other (by omega)]; exact h.fresh i (by omega)
  · rw [hg] at hi
    by_cases hin : i = s.next
    · subst hin
      simp at hi
      obtain ⟨rfl, rfl⟩ := hi
      exact ⟨_, cur, Mu.put_same _ _ _, heap_alloc_new w _, by simp, hc, fun _ => h.below.size, hcs.mono hle⟩
    · rw [if_neg hin] at hi
      obtain ⟨p, cur', h1, h2, h3, h4, h5, h6⟩ := hR.row i c' e' hi
      exact ⟨p, cur', hle _ _ h1, h2, h3, h4, h5, h6.mono hle⟩
  · rw [hg] at hi hj
    by_cases hin : i = s.next
    · by_cases hjn : j = s.next
      · rw [hin, hjn]
      · exfalso
        rw [if_neg hjn] at hj
        have h1 := hlt j cj ej q hj (old j q hjn hq)
        subst hin
        rw [Mu.put_same] at hp
        cases hp
        simp at hpq
        omega
    · by_cases hjn : j = s.next
      · exfalso
        rw [if_neg hin] at hi
        have h1 := hlt i ci ei p hi (old i p hin hp)
        subst hjn
        rw [Mu.put_same] at hq
        cases hq
        simp at hpq
        omega
      · rw [if_neg hin] at hi
        rw [if_neg hjn] at hj
        exact h.inj i j ci ei cj ej p q hi hj (old i p hin hp) (old j q hjn hq) hpq
  · rw [hg] at hi
    by_cases hin : i = s.next
    · subst hin; simp at hi
    · rw [if_neg hin] at hi
      obtain ⟨p, h1, h2, h3⟩ := hR.ro i c' hi
      exact ⟨p, hle _ _ h1, h2, fun j v hj => let ⟨v', h4, h5⟩ := h3 j v hj; ⟨v', h4, h5.mono hle⟩⟩
  · rw [hg] at hi
    by_cases hin : i = s.next
    · subst hin; simp at hi
    · rw [if_neg hin] at hi
      obtain ⟨p, es', h1, h2, h3, h4⟩ := hR.map i es k hi
      exact ⟨p, es', hle _ _ h1, h2, h3, h4.mono hle⟩
  · rw [hg] at hi hj
    by_cases hin : i = s.next
    · subst hin; simp at hi
    · by_cases hjn : j = s.next
      · subst hjn; simp at hj
      · rw [if_neg hin] at hi
        rw [if_neg hjn] at hj
        exact h.minj i j es k es' k' p q hi hj (old i p hin hp) (old j q hjn hq) hpq

/-- A row is written (its block's cells are now cur'), and reads as c'. -/
theorem R.write (h : R η w0 μ s w) {t : Tr HObj} {d : Nat} {i : Nat} {c c' : List Value} {e : TypeId} (hi : s.h.get i = some (.row c e)) (hlo : s.lo ≤ i) (ht : Tr.set d s.h i (.row c' e) = some t)
    {p : Place} {cur cur' : Array Value} (hp : μ i = some p) (hcur : w.heap[p.blk]? = some (.cells cur e (0, 0))) (hsz : cur'.size = cur.size) (hl : c'.length ≤ p.room) (hcs : CsR η μ c' cur' p.base)
    {w' : World} (hw : Below w0.heap.size w0 w') (hblk : w'.heap[p.blk]? = some (.cells cur' e (0, 0))) (hoth : ∀ g, g ≠ p.blk → w'.heap[g]? = w.heap[g]?) :
    R η w0 μ { s with h := t } w' := by
  have hg := Tr.get_set d s.h t i (.row c' e) ht
  have hcell : ∀ (a : Addr), a.block ≠ p.blk → w'.cell? a = w.cell? a := fun a ha => World.cell?_of_block (hoth _ ha)
  obtain ⟨p', cur1, k1, k2, k3, k4, k5, k6⟩ := h.row i c e hi
  rw [hp] at k1; cases k1
  rw [hcur] at k2; cases k2
  have hge : w0.heap.size ≤ p.blk := k5 hlo
  refine ⟨hw, h.fresh, fun j cj ej hj => ?_, fun a b ca ea cb eb pa pb ha hb hpa hpb hab => ?_, fun j cj hj => ?_, fun j es k hj => ?_, fun a b es k es' k' pa pb ha hb hpa hpb hab => ?_, h.gl⟩
  · rw [show ({ s with h := t } : St).h = t from rfl, hg] at hj
    by_cases hji : j = i
    · subst hji
      simp at hj
      obtain ⟨rfl, rfl⟩ := hj
      exact ⟨p, cur', hp, hblk, by rw [hsz]; exact k3, hl, k5, hcs⟩
    · rw [if_neg hji] at hj
      obtain ⟨q, curj, h1, h2, h3, h4, h5, h6⟩ := h.row j cj ej hj
      have hne : q.blk ≠ p.blk := fun e' => hji (h.inj j i cj ej c e q p hj hi h1 hp e')
      exact ⟨q, curj, h1, by rw [hoth _ hne]; exact h2, h3, h4, h5, h6⟩
  · rw [show ({ s with h := t } : St).h = t from rfl, hg] at ha hb
    have ra : ∃ c e, s.h.get a = some (.row c e) := by
      by_cases hai : a = i
      · subst hai; exact ⟨_, _, hi⟩
      · rw [if_neg hai] at ha; exact ⟨_, _, ha⟩
    have rb : ∃ c e, s.h.get b = some (.row c e) := by
      by_cases hbi : b = i
      · subst hbi; exact ⟨_, _, hi⟩
      · rw [if_neg hbi] at hb; exact ⟨_, _, hb⟩
    obtain ⟨_, _, ra⟩ := ra
    obtain ⟨_, _, rb⟩ := rb
    exact h.inj a b _ _ _ _ pa pb ra rb hpa hpb hab
  · rw [show ({ s with h := t } : St).h = t from rfl, hg] at hj
    by_cases hji : j = i
    · subst hji; simp at hj
    · rw [if_neg hji] at hj
      obtain ⟨q, h1, h2, h3⟩ := h.ro j cj hj
      refine ⟨q, h1, h2, fun x v hx => ?_⟩
      obtain ⟨v', h4, h5⟩ := h3 x v hx
      exact ⟨v', (hcell _ (by show q.blk ≠ p.blk; omega)).trans h4, h5⟩
  · rw [show ({ s with h := t } : St).h = t from rfl, hg] at hj
    by_cases hji : j = i
    · subst hji; simp at hj
    · rw [if_neg hji] at hj
      obtain ⟨q, es', h1, h2, h3, h4⟩ := h.map j es k hj
      have hne : q.blk ≠ p.blk := fun e' => by rw [e', hcur] at h2; simp at h2
      exact ⟨q, es', h1, by rw [hoth _ hne]; exact h2, h3, h4⟩
  · rw [show ({ s with h := t } : St).h = t from rfl, hg] at ha hb
    have ra : s.h.get a = some (.map es k) := by
      by_cases hai : a = i
      · subst hai; simp at ha
      · rwa [if_neg hai] at ha
    have rb : s.h.get b = some (.map es' k') := by
      by_cases hbi : b = i
      · subst hbi; simp at hb
      · rwa [if_neg hbi] at hb
    exact h.minj a b _ _ _ _ pa pb ra rb hpa hpb hab

/-- A row is given up, and a new one begins inside its block. -/
theorem R.move (h : R η w0 μ s w) {t u : Tr HObj} {d d' : Nat} {i : Nat} {c c' : List Value} {e : TypeId} (hi : s.h.get i = some (.row c e)) (hlo : s.lo ≤ i) (hin : i ≠ s.next)
    (ht : Tr.set d s.h i .dead = some t) (hu : Tr.set d' t s.next (.row c' e) = some u)
    {p : Place} {cur cur' : Array Value} (hp : μ i = some p) (hcur : w.heap[p.blk]? = some (.cells cur e (0, 0))) (hsz : cur'.size = cur.size) {o : Nat} (ho : o ≤ p.room) (hl : c'.length ≤ p.room - o) (hcs : CsR η μ c' cur' (p.base + o))
    {w' : World} (hw : Below w0.heap.size w0 w') (hblk : w'.heap[p.blk]? = some (.cells cur' e (0, 0))) (hoth : ∀ g, g ≠ p.blk → w'.heap[g]? = w.heap[g]?) :
    R η w0 (μ.put s.next ⟨p.blk, p.base + o, p.room - o⟩) { s with h := u, next := s.next + 1 } w' := by
  have hg1 := Tr.get_set d s.h t i .dead ht
  have hg2 := Tr.get_set d' t u s.next (.row c' e) hu
  have hg : ∀ j, u.get j = if j = s.next then some (.row c' e) else if j = i then some .dead else s.h.get j := fun j => by rw [hg2, hg1]
  have hle : μ.le (μ.put s.next ⟨p.blk, p.base + o, p.room - o⟩) := Mu.put_le (h.fresh _ (Nat.le_refl _))
  have hcell : ∀ (a : Addr), a.block ≠ p.blk → w'.cell? a = w.cell? a := fun a ha => World.cell?_of_block (hoth _ ha)
  have old : ∀ i q, i ≠ s.next → (μ.put s.next ⟨p.blk, p.base + o, p.room - o⟩) i = some q → μ i = some q := fun i q hi hq => by rwa [Mu.put_other hi] at hq
  obtain ⟨p', cur1, k1, k2, k3, k4, k5, k6⟩ := h.row i c e hi
  rw [hp] at k1; cases k1
  rw [hcur] at k2; cases k2
  have hge : w0.heap.size ≤ p.blk := k5 hlo
  refine ⟨hw, fun j hj => ?_, fun j cj ej hj => ?_, fun a b ca ea cb eb pa pb ha hb hpa hpb hab => ?_, fun j cj hj => ?_, fun j es k hj => ?_, fun a b es k es' k' pa pb ha hb hpa hpb hab => ?_, fun g hg' => let ⟨r, hr⟩ := h.gl g hg'; ⟨r, hle _ _ hr⟩⟩
  · have : s.next + 1 ≤ j := hj
    rw [Mu.put_other (by omega)]; exact h.fresh j (by omega)
  · rw [show ({ s with h := u, next := s.next + 1 } : St).h = u from rfl, hg] at hj
    by_cases hjn : j = s.next
    · subst hjn
      simp at hj
      obtain ⟨rfl, rfl⟩ := hj
      exact ⟨_, cur', Mu.put_same _ _ _, hblk, by show p.base + o + (p.room - o) = _; rw [hsz]; omega, hl, fun _ => hge, hcs.mono hle⟩
    · rw [if_neg hjn] at hj
      by_cases hji : j = i
      · subst hji; simp at hj
      · rw [if_neg hji] at hj
        obtain ⟨q, curj, h1, h2, h3, h4, h5, h6⟩ := h.row j cj ej hj
        have hne : q.blk ≠ p.blk := fun e' => hji (h.inj j i cj ej c e q p hj hi h1 hp e')
        exact ⟨q, curj, hle _ _ h1, by rw [hoth _ hne]; exact h2, h3, h4, h5, h6.mono hle⟩
  · rw [show ({ s with h := u, next := s.next + 1 } : St).h = u from rfl, hg] at ha hb
    by_cases han : a = s.next
    · by_cases hbn : b = s.next
      · rw [han, hbn]
      · exfalso
        rw [if_neg hbn] at hb
        by_cases hbi : b = i
        · subst hbi; simp at hb
        · rw [if_neg hbi] at hb
          have hpb' := old b pb hbn hpb
          subst han
          rw [Mu.put_same] at hpa
          cases hpa
          exact hbi (h.inj b i cb eb c e pb p hb hi hpb' hp hab.symm)
    · rw [if_neg han] at ha
      by_cases hai : a = i
      · subst hai; simp at ha
      · rw [if_neg hai] at ha
        have hpa' := old a pa han hpa
        by_cases hbn : b = s.next
        · exfalso
          subst hbn
          rw [Mu.put_same] at hpb
          cases hpb
          exact hai (h.inj a i ca ea c e pa p ha hi hpa' hp hab)
        · rw [if_neg hbn] at hb
          by_cases hbi : b = i
          · subst hbi; simp at hb
          · rw [if_neg hbi] at hb
            exact h.inj a b ca ea cb eb pa pb ha hb hpa' (old b pb hbn hpb) hab
  · rw [show ({ s with h := u, next := s.next + 1 } : St).h = u from rfl, hg] at hj
    by_cases hjn : j = s.next
    · subst hjn; simp at hj
    · rw [if_neg hjn] at hj
      by_cases hji : j = i
      · subst hji; simp at hj
      · rw [if_neg hji] at hj
        obtain ⟨q, h1, h2, h3⟩ := h.ro j cj hj
        refine ⟨q, hle _ _ h1, h2, fun x v hx => ?_⟩
        obtain ⟨v', h4, h5⟩ := h3 x v hx
        exact ⟨v', (hcell _ (by show q.blk ≠ p.blk; omega)).trans h4, h5.mono hle⟩
  · rw [show ({ s with h := u, next := s.next + 1 } : St).h = u from rfl, hg] at hj
    by_cases hjn : j = s.next
    · subst hjn; simp at hj
    · rw [if_neg hjn] at hj
      by_cases hji : j = i
      · subst hji; simp at hj
      · rw [if_neg hji] at hj
        obtain ⟨q, es', h1, h2, h3, h4⟩ := h.map j es k hj
        have hne : q.blk ≠ p.blk := fun e' => by rw [e', hcur] at h2; simp at h2
        exact ⟨q, es', hle _ _ h1, by rw [hoth _ hne]; exact h2, h3, h4.mono hle⟩
  · rw [show ({ s with h := u, next := s.next + 1 } : St).h = u from rfl, hg] at ha hb
    by_cases han : a = s.next
    · subst han; simp at ha
    · rw [if_neg han] at ha
      by_cases hai : a = i
      · subst hai; simp at ha
      · rw [if_neg hai] at ha
        by_cases hbn : b = s.next
        · subst hbn; simp at hb
        · rw [if_neg hbn] at hb
          by_cases hbi : b = i
          · subst hbi; simp at hb
          · rw [if_neg hbi] at hb
            exact h.minj a b _ _ _ _ pa pb ha hb (old a pa han hpa) (old b pb hbn hpb) hab

/-- What stands now is protected: from here on it is read alone. -/
theorem R.protect (h : R η w0 μ s w) : R η w μ { s with lo := s.next } w where
  below := Below.refl _ _
  fresh := h.fresh
  row := fun i c e hi => by
    obtain ⟨p, cur, h1, h2, h3, h4, h5, h6⟩ := h.row i c e hi
    refine ⟨p, cur, h1, h2, h3, h4, fun hl => ?_, h6⟩
    have : s.next ≤ i := hl
    rw [h.fresh i this] at h1; cases h1
  inj := h.inj
  ro := fun i c hi => by
    obtain ⟨p, h1, h2, h3⟩ := h.ro i c hi
    exact ⟨p, h1, Nat.lt_of_lt_of_le h2 h.below.size, h3⟩
  map := fun i es k hi => by
    obtain ⟨p, es', h1, h2, h3, h4⟩ := h.map i es k hi
    refine ⟨p, es', h1, h2, fun hl => ?_, h4⟩
    have : s.next ≤ i := hl
    rw [h.fresh i this] at h1; cases h1
  minj := h.minj
  gl := h.gl
end

end Go.Hx
