/- Any order of a region: what may be taken first, and what must hold behind every operation, as a matter of what is listed. -/
import Derived.Test.YtpjfmjemmphheadGreatDoorHx9
import Derived.OrdersHeld
import Derived.StillTail
namespace Go.Hx
open Go Go.RowKit

/-- How many are listed. -/
def cnt : List Bool → Nat
  | [] => 0
  | true :: l => cnt l + 1
  | false :: l => cnt l

theorem cnt_le : ∀ l : List Bool, cnt l ≤ l.length
  | [] => Nat.le_refl _
  | true :: l => Nat.succ_le_succ (cnt_le l)
  | false :: l => Nat.le_succ_of_le (cnt_le l)

theorem cnt_set : ∀ (l : List Bool) (i : Nat), l[i]? = some false → cnt (l.set i true) = cnt l + 1
  | [], i, h => by simp at h
  | b :: l, 0, h => by
    simp at h
    subst h
    rfl
  | b :: l, i + 1, h => by
    have := cnt_set l i (by simpa using h)
    cases b <;> simp [cnt, this]

theorem cnt_lt : ∀ (l : List Bool) (i : Nat), l[i]? = some false → cnt l < l.length
  | [], i, h => by simp at h
  | b :: l, 0, h => by
    simp at h
    subst h
    have := cnt_le l
    simp only [cnt, List.length_cons]
    omega
  | b :: l, i + 1, h => by
    have := cnt_lt l i (by simpa using h)
    cases b <;> simp [cnt] <;> omega

section
variable {P : Program} {ops : Array Oper} {Q : Exit → Act → World → Prop} {md : Region.Mode}

/-- Whatever order is picked from here on, and S holds behind every operation. -/
def wpAnyG (P : Program) (md : Region.Mode) (ops : Array Oper) (Q : Exit → Act → World → Prop) (S : Array Bool → World → Prop) : Nat → Array Bool → Act → World → Prop
  | 0, listed, a, w => Region.ready md ops listed = [] ∧ Q .normal a w
  | fuel + 1, listed, a, w => (Region.ready md ops listed = [] → Q .normal a w) ∧
    ∀ i ∈ Region.ready md ops listed, wpOp P ops Q i (fun a' w' => S (listed.setIfInBounds i true) w' ∧ wpAnyG P md ops Q S fuel (listed.setIfInBounds i true) a' w') a w

theorem wpAny_of_G {S : Array Bool → World → Prop} : ∀ (fuel : Nat) (listed : Array Bool) (a : Act) (w : World), wpAnyG P md ops Q S fuel listed a w → wpAny P md ops Q fuel listed a w
  | 0, _, _, _, h => h
  | fuel + 1, _, _, _, h => ⟨h.1, fun i hi => wpOp_mono (fun a' w' h' => wpAny_of_G fuel _ a' w' h'.2) (h.2 i hi)⟩

/-- A weaker S, from where 'c' is listed on. -/
theorem wpAnyG_from {S S' : Array Bool → World → Prop} {c : Nat} (hS : ∀ l w, l.getD c false = true → S' l w → S l w) : ∀ (fuel : Nat) (listed : Array Bool) (a : Act) (w : World), listed.getD c false = true →
    wpAnyG P md ops Q S' fuel listed a w → wpAnyG P md ops Q S fuel listed a w
  | 0, _, _, _, _, h => h
  | fuel + 1, _, _, _, hc, h => ⟨h.1, fun i hi => wpOp_mono (fun _ _ h' => ⟨hS _ _ (getD_set_true hc) h'.1, wpAnyG_from hS fuel _ _ _ (getD_set_true hc) h'.2⟩) (h.2 i hi)⟩

theorem wpAnyG_mono {S S' : Array Bool → World → Prop} (hS : ∀ l w, S' l w → S l w) : ∀ (fuel : Nat) (listed : Array Bool) (a : Act) (w : World),
    wpAnyG P md ops Q S' fuel listed a w → wpAnyG P md ops Q S fuel listed a w
  | 0, _, _, _, h => h
  | fuel + 1, _, _, _, h => ⟨h.1, fun i hi => wpOp_mono (fun _ _ h' => ⟨hS _ _ h'.1, wpAnyG_mono hS fuel _ _ _ h'.2⟩) (h.2 i hi)⟩

/-- A listed operation of those that act waits for number i. -/
def conf (md : Region.Mode) (ops : Array Oper) (st : Nat → Bool) (i : Nat) (l : Array Bool) : Prop := ∃ c, st c = true ∧ l.getD c false = true ∧ Region.waitsFor md ops c i = true

theorem conf_set {st : Nat → Bool} {i j : Nat} (hj : st j = false) (l : Array Bool) : conf md ops st i (l.setIfInBounds j true) ↔ conf md ops st i l := by
  constructor
  · rintro ⟨c, h1, h2, h3⟩
    have hne : j ≠ c := fun e => by subst e; rw [hj] at h1; cases h1
    rw [getD_set_ne false hne] at h2
    exact ⟨c, h1, h2, h3⟩
  · rintro ⟨c, h1, h2, h3⟩
    exact ⟨c, h1, getD_set_true h2, h3⟩

theorem conf_mono {st : Nat → Bool} {i j : Nat} {l : Array Bool} (h : conf md ops st i l) : conf md ops st i (l.setIfInBounds j true) := by
  obtain ⟨c, h1, h2, h3⟩ := h
  exact ⟨c, h1, getD_set_true h2, h3⟩

/-- **An operation that may come up now may be taken first**, if it yields its value in every world that meets T, and T holds as long as nobody who waits for it has come up. -/
theorem wpAnyG_first {st : Nat → Bool} {i : Nat} {oi : Oper} {v : Value} {T : World → Prop} {S : Array Bool → World → Prop} (hi : ops[i]? = some oi) (hst : st i = false)
    (hsel : ∀ (j : Nat) (o : Oper) cs b, ops[j]? = some o → o.op ≠ .select cs b) (hQ : ∀ c a w, Q (.panic c) (a.put oi.dst v) w → Q (.panic c) a w) (hS : ∀ l w, S (l.setIfInBounds i true) w ↔ S l w) :
    ∀ (fuel : Nat) (listed : Array Bool) (a : Act) (w : World),
      (∀ j oj, ops[j]? = some oj → j ≠ i → listed.getD j true = false → (∀ e ∈ oj.after, Region.binds md e = true → e.on ≠ i) → oi.apart ops oj = true) →
      i ∈ Region.ready md ops listed → ¬ conf md ops st i listed → YieldsIf P ops T oi v a → T w → S listed w →
      wpAnyG P md ops Q (fun l w => S l w ∧ (conf md ops st i l ∨ T w)) fuel (listed.setIfInBounds i true) (a.put oi.dst v) w → wpAnyG P md ops Q S (fuel + 1) listed a w := by
  intro fuel
  induction fuel with
  | zero =>
    intro listed a w _ hr hc hy hT hSw H
    refine ⟨fun h => (by rw [h] at hr; cases hr), fun j hj => ?_⟩
    by_cases hji : j = i
    · subst hji; exact hy.wpOp hi hT ⟨(hS _ _).2 hSw, H⟩
    · have := ready_mono hj hji
      rw [H.1] at this
      cases this
  | succ fuel ih =>
    intro listed a w hfree hr hc hy hT hSw H
    refine ⟨fun h => (by rw [h] at hr; cases hr), fun j hj => ?_⟩
    by_cases hji : j = i
    · subst hji; exact hy.wpOp hi hT ⟨(hS _ _).2 hSw, wpAnyG_mono (fun _ _ h => h.1) _ _ _ _ H⟩
    · have h1 := H.2 j (ready_mono hj hji)
      obtain ⟨hjun, oj, hoj, hall⟩ := mem_ready.1 hj
      have hun : listed.getD i true = false := (mem_ready.1 hr).1
      have hnot : ∀ e ∈ oj.after, Region.binds md e = true → e.on ≠ i := fun e he hb heq => by
        have h1 := hall e he hb
        rw [heq, getD_both hun] at h1
        cases h1
      have hnw : Region.waitsFor md ops j i = false := by
        cases hw : Region.waitsFor md ops j i with
        | false => rfl
        | true =>
          obtain ⟨oj', hj', e, he, hb, heq⟩ := Region.waitsFor_spec hw
          rw [hoj] at hj'; cases hj'
          exact absurd heq (hnot e he hb)
      have hc' : ¬ conf md ops st i (listed.setIfInBounds j true) := by
        rintro ⟨c, k1, k2, k3⟩
        by_cases hcj : j = c
        · subst hcj; rw [hnw] at k3; cases k3
        · rw [getD_set_ne false hcj] at k2
          exact hc ⟨c, k1, k2, k3⟩
      have h2 := wpOp_putIf hoj (hfree j oj hoj hji hjun hnot) (fun cs b => hsel i oi cs b hi) (fun cs b => hsel j oj cs b hoj) hQ hy h1
      have hfree' : ∀ k ok, ops[k]? = some ok → k ≠ i → (listed.setIfInBounds j true).getD k true = false →
          (∀ e ∈ ok.after, Region.binds md e = true → e.on ≠ i) → oi.apart ops ok = true := fun k ok hk hki hun hno => by
        refine hfree k ok hk hki ?_ hno
        by_cases hjk : j = k
        · subst hjk; exact hjun
        · rw [getD_set_ne true hjk] at hun; exact hun
      refine wpOp_mono (fun a' w' h3 => ?_) h2
      obtain ⟨hy', ⟨hS', hT'⟩, hG⟩ := h3
      rw [Array.setIfInBounds_comm _ _ (Ne.symm hji)] at hS' hT' hG
      have hS'' := (hS _ _).1 hS'
      have hT'' : T w' := by
        rcases hT' with hT' | hT'
        · exact absurd ((conf_set hst _).1 hT') hc'
        · exact hT'
      exact ⟨hS'', ih (listed.setIfInBounds j true) a' w' hfree' (ready_mono hr (Ne.symm hji)) hc' hy' hT'' hS'' hG⟩

end
end Go.Hx
