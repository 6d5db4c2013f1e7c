/- A variable whose datum is known: its cells. -/
import Derived.Test.YtpjfmjemmphheadGreatDoorHx22
namespace Go.Hx
open Go Go.RowKit

def datC {H : Type} : Nat → DataW H → List Value
  | 0, _ => []
  | _ + 1, .lit (.int k n) => [.int k n]
  | _ + 1, .lit (.bool b) => [.bool b]
  | d + 1, .agg ps => ps.flatMap (datC d)
  | _ + 1, _ => []

/-- No slice in it. -/
def plainK (kd : List Kd) : Bool := kd.all fun | .s _ => false | _ => true

section
variable {H : Type} {enc : TypeId × Value → H} {P : Program} {W : World} {base : Nat} {sp : Nat → Bool} {held : Bool}

theorem kdFs_cells {D fuel : Nat} {cs : List Value} (ih : ∀ (t : TypeId) (cs : List Value) (x : DataW H × List MemPlace) (kd : List Kd), kdOf P D t = some kd → plainK kd = true → DataW.trod enc P W base sp held fuel t cs = some x → cs = datC D x.1) :
    ∀ (fs : List Field) (o : Nat) (l : List Kd) (r : List (DataW H × List MemPlace)), kdFs P (kdOf P D) o fs = some l → plainK l = true →
      fs.mapM (fun f => DataW.trod enc P W base sp held fuel f.type ((cs.drop f.offset).take (P.cellsOf f.type))) = some r → o + l.length ≤ cs.length →
      (cs.drop o).take l.length = (r.map (·.1)).flatMap (datC D) := by
  intro fs
  induction fs with
  | nil => intro o l r h _ hr _; cases h; simp at hr; subst hr; simp
  | cons f fs ihf =>
    intro o l r h hp hr ho
    simp only [kdFs] at h
    have h2 := bif_some h
    clear h
    obtain ⟨hof, h⟩ := h2
    rw [beq_iff] at hof
    subst hof
    split at h
    · rename_i lf hlf
      have h2 := bif_some h
      clear h
      obtain ⟨hc, h⟩ := h2
      rw [beq_iff] at hc
      simp only [Option.map_eq_some_iff] at h
      obtain ⟨l', hl', rfl⟩ := h
      simp only [plainK, List.all_append, Bool.and_eq_true] at hp
      simp only [List.mapM_cons, Option.bind_eq_bind, Option.bind_eq_some_iff] at hr
      obtain ⟨y, hy, r', hr', h⟩ := hr
      cases h
      simp only [List.length_append] at ho
      have k1 := ih f.type _ y lf hlf hp.1 hy
      have k2 := ihf _ l' r' hl' hp.2 hr' (by omega)
      rw [hc] at k1
      rw [List.length_append, List.take_add, List.drop_drop, k1, k2]
      simp
    · cases h

theorem rep_cells {z : Nat} {cs : List Value} {D : Nat} : ∀ (m o : Nat) (r : List (DataW H × List MemPlace)), r.length = m → (∀ i y, r[i]? = some y → (cs.drop (o + i * z)).take z = datC D y.1) → (cs.drop o).take (m * z) = (r.map (·.1)).flatMap (datC D) := by
  intro m
  induction m with
  | zero => intro o r hr _; have : r = [] := List.length_eq_zero_iff.1 hr; subst this; simp
  | succ m ih =>
    intro o r hr h
    cases r with
    | nil => simp at hr
    | cons y r =>
      have k1 := h 0 y rfl
      rw [Nat.zero_mul, Nat.add_zero] at k1
      have k2 := ih (o + z) r (by simpa using hr) (fun i x hx => by
        have := h (i + 1) x (by simpa using hx)
        rwa [show o + (i + 1) * z = o + z + i * z by rw [Nat.add_mul]; omega] at this)
      rw [show (m + 1) * z = z + m * z by rw [Nat.add_mul]; omega, List.take_add, List.drop_drop, k1, k2]
      simp

theorem trod_cells : ∀ (D fuel : Nat) (t : TypeId) (cs : List Value) (x : DataW H × List MemPlace) (kd : List Kd), kdOf P D t = some kd → plainK kd = true → DataW.trod enc P W base sp held fuel t cs = some x → cs = datC D x.1 := by
  intro D
  induction D with
  | zero => intro fuel t cs x kd h; cases h
  | succ D ih =>
    intro fuel t cs x kd hk hp ht
    cases fuel with
    | zero => simp [DataW.trod] at ht
    | succ fuel =>
    simp only [kdOf] at hk
    unfold DataW.trod at ht
    split at hk
    · rename_i hu
      cases hk
      simp only [hu] at ht
      split at ht <;> simp_all
      obtain ⟨rfl, _⟩ := ht
      rfl
    · rename_i hu
      cases hk
      simp only [hu] at ht
      split at ht <;> simp_all
      obtain ⟨⟨e1, _⟩, rfl⟩ := ht
      subst_vars
      rfl
    · rename_i e hu
      cases hk
      cases hp
    · rename_i fs hu
      split at hk
      · rename_i l hl
        have hk2 := bif_some hk
        clear hk
        obtain ⟨hc, hk⟩ := hk2
        rw [beq_iff] at hc
        cases hk
        simp only [hu] at ht
        split at ht
        · rename_i hlen
          simp only [Option.map_eq_some_iff] at ht
          obtain ⟨r, hr, rfl⟩ := ht
          have := kdFs_cells (ih fuel) fs.toList 0 kd r hl hp hr (by omega)
          rw [List.drop_zero, List.take_of_length_le (by omega)] at this
          exact this
        · cases ht
      · cases hk
    · rename_i n e hu
      split at hk
      · rename_i l hl
        have hk2 := bif_some hk
        clear hk
        obtain ⟨hc, hk⟩ := hk2
        simp only [Bool.and_eq_true, beq_iff] at hc
        obtain ⟨⟨hc1, hc2⟩, hc3⟩ := hc
        cases hk
        simp only [hu] at ht
        split at ht
        · rename_i hlen
          simp only [Option.map_eq_some_iff] at ht
          obtain ⟨r, hr, rfl⟩ := ht
          obtain ⟨hrl, hrg⟩ := mapM_get hr
          simp only [List.length_range] at hrl
          rw [hc1] at hrg
          by_cases hn : n = 0
          · subst hn
            have hr0 : r = [] := List.length_eq_zero_iff.1 hrl
            subst hr0
            have : cs = [] := List.length_eq_zero_iff.1 (by omega)
            subst this
            rfl
          have hpl : plainK l = true := by
            unfold plainK at hp ⊢
            rw [List.all_eq_true] at hp ⊢
            exact fun k hk => hp k (List.mem_flatten.2 ⟨l, by simp [hn], hk⟩)
          have := rep_cells (H := H) (z := l.length) (cs := cs) (D := D) n 0 r hrl (fun i y hy => by
            have hi := (List.getElem?_eq_some_iff.1 hy).1
            obtain ⟨y', hy1, hy2⟩ := hrg i i (by rw [List.getElem?_range (by omega)])
            rw [hy] at hy1
            cases hy1
            rw [Nat.zero_add]
            exact ih fuel e _ y l hl hpl hy2)
          rw [List.drop_zero, List.take_of_length_le (by omega)] at this
          exact this
        · cases ht
      · cases hk
    · cases hk

/-- What is laid for a variable: its cells. -/
theorem laid_cells {laid : List (String × DataW Unit)} {ps : List MemPlace} (h : DataW.LaidVars P W laid ps) {name : String} {dat : DataW Unit} (hm : (name, dat) ∈ laid) {g : Nat} {t : TypeId} (hg : P.globalNamed name = some g) (ht : (P.globals[g]?).map (·.type) = some t) {D : Nat} {kd : List Kd} (hk : kdOf P D t = some kd) (hp : plainK kd = true) :
    ∀ (j : Nat) (v : Value), (datC D dat)[j]? = some v → W.cell? ⟨g, j, none⟩ = some v := by
  induction laid generalizing ps with
  | nil => cases hm
  | cons x laid ih =>
    obtain ⟨n, d⟩ := x
    obtain ⟨g', t', cs, fuel, p, q, h1, h2, h3, h4, h5, _⟩ := h
    rcases List.mem_cons.1 hm with e | hm
    · cases e
      rw [hg] at h1
      cases h1
      rw [ht] at h2
      cases h2
      have hcs := trod_cells D fuel t cs.toList _ kd hk hp h4
      intro j v hj
      have hcs : cs.toList = datC D dat := hcs
      rw [← hcs] at hj
      unfold World.var? at h3
      rw [hg] at h3
      simp only [Option.bind_some] at h3
      split at h3
      · rename_i cs' e' fr hb
        cases h3
        simp only [World.cell?, hb]
        simpa using hj
      · cases h3
    · exact ih h5 hm

end
end Go.Hx
