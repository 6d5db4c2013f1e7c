/- Locking a block for a while, and taking over a block that came into being meanwhile. -/
import Derived.Test.YtpjfmjemmphheadGreatDoorHx2
namespace Go.Hx
open Go Go.RowKit

def lockO : HObj → Option HObj
  | .row c _ => some (.lk c)
  | .map es k => some (.rm es k)
  | .win c _ => some (.lk c)
  | _ => none

section
variable {η : Env} {w0 : Base} {μ μ' : Mu} {s s' : St} {w w' : World}

theorem lockO_cases {o o' : HObj} (h : lockO o = some o') : (∃ c e, o = .row c e ∧ o' = .lk c) ∨ (∃ es k, o = .map es k ∧ o' = .rm es k) ∨ (∃ c e, o = .win c e ∧ o' = .lk c) := by
  cases o with
  | row c e => cases h; exact .inl ⟨c, e, rfl, rfl⟩
  | map es k => cases h; exact .inr (.inl ⟨es, k, rfl, rfl⟩)
  | win c e => cases h; exact .inr (.inr ⟨c, e, rfl, rfl⟩)
  | _ => cases h

theorem lockO_rm {o o' : HObj} (h : lockO o = some o') : isRM o := by
  rcases lockO_cases h with ⟨c, e, rfl, _⟩ | ⟨es, k, rfl, _⟩ | ⟨c, e, rfl, _⟩
  · exact .inl ⟨_, _, rfl⟩
  · exact .inr (.inl ⟨_, _, rfl⟩)
  · exact .inr (.inr ⟨_, _, rfl⟩)

theorem lockO_own {o o' : HObj} (h : lockO o = some o') {p : Place} {g : Nat} : own o p g ↔ g = p.blk := by
  rcases lockO_cases h with ⟨c, e, rfl, _⟩ | ⟨es, k, rfl, _⟩ | ⟨c, e, rfl, _⟩ <;> exact Iff.rfl

theorem lockO_own' {o o' : HObj} (h : lockO o = some o') {p : Place} {g : Nat} : ¬ own o' p g ∧ ¬ bor o' p g ∧ ¬ isRM o' := by
  rcases lockO_cases h with ⟨c, e, _, rfl⟩ | ⟨es, k, _, rfl⟩ | ⟨c, e, _, rfl⟩ <;> exact ⟨id, id, fun h => by rcases h with ⟨_, _, e⟩ | ⟨_, _, e⟩ | ⟨_, _, e⟩ <;> cases e⟩

theorem lockO_bor {o o' : HObj} (h : lockO o = some o') {p : Place} {g : Nat} : ¬ bor o p g := by
  rcases lockO_cases h with ⟨c, e, rfl, _⟩ | ⟨es, k, rfl, _⟩ | ⟨c, e, rfl, _⟩ <;> exact id

theorem R.blk_lt (h : R η w0 μ s w) {i : Nat} {o o' : HObj} (hi : s.h.get i = some o) (hk : lockO o = some o') {p : Place} (hp : μ i = some p) : p.blk < w.heap.size :=
  h.own_lt hi hp (.inl ((lockO_own hk).2 rfl))

theorem lock_hl {i : Nat} {o o' : HObj} {p : Place} {β : Base} (hk : lockO o = some o') (hl : Hl η w0 μ i o p w) (hβ : β.lk i p.blk) : Hl η β μ i o' p w := by
  rcases lockO_cases hk with ⟨c, e, rfl, rfl⟩ | ⟨es, k, rfl, rfl⟩ | ⟨c, e, rfl, rfl⟩
  · obtain ⟨cur, h1, h2, h3, h4⟩ := hl
    exact ⟨hβ, fun j v hj => let ⟨v', h7, h8⟩ := h4 j v hj; ⟨v', (cell_of_row w p.blk (p.base + j) cur e (0, 0) h1).trans h7, h8⟩⟩
  · obtain ⟨es', h1, h2⟩ := hl
    exact ⟨es', hβ, h1, h2⟩
  · obtain ⟨cur, h1, h2, h4, _⟩ := hl
    exact ⟨hβ, fun j v hj => let ⟨v', h7, h8⟩ := h4 j v hj; ⟨v', (cell_of_row w p.blk (p.base + j) cur e (0, 0) h1).trans h7, h8⟩⟩

theorem wrO_and {o : HObj} {g b : Nat} {io : Option Nat} {hb : b < w.heap.size} (h : wrO w0 o g) (hne : g ≠ b) : wrO (w0.lock w io b hb) o g := by
  cases o <;> first | exact ⟨h, hne⟩ | trivial
theorem wrO_fst {o : HObj} {g b : Nat} {io : Option Nat} {hb : b < w.heap.size} (h : wrO (w0.lock w io b hb) o g) : wrO w0 o g := by
  cases o <;> first | exact h.1 | trivial

/-- Whoever owns or reads a block is not the one whose block is held. -/
theorem R.free_ne {w1 : World} {b : Nat} {io : Option Nat} {hb : b < w1.heap.size} (h : R η (w0.lock w1 io b hb) μ s w) {j : Nat} {x : HObj} {q : Place} (hj : s.h.get j = some x) (hq : μ j = some q) {g : Nat} (hg : own x q g ∨ bor x q g) : g ≠ b := by
  have hd : x ≠ .dead := fun e => by subst e; exact hg.elim id id
  obtain ⟨q', h1, h2, h3⟩ := h.obj j x hj hd
  rw [hq] at h1; cases h1
  cases x with
  | row c e => exact hg.elim (fun hg => (h3 g hg).2) (fun hg => hg.elim)
  | map es k => exact hg.elim (fun hg => (h3 g hg).2) (fun hg => hg.elim)
  | tok k => exact hg.elim (fun hg => (h3 g hg).2) (fun hg => hg.elim)
  | el c => exact hg.elim (fun hg => hg.elim) (fun hg => by cases hg; exact h2.2.1.2)
  | win c e => obtain ⟨_, _, _, _, h5⟩ := h2; exact hg.elim (fun hg => by cases hg; exact h5.2) (fun hg => hg.elim)
  | ro c => exact (hg.elim id id).elim
  | lk c => exact (hg.elim id id).elim
  | rm es k => exact (hg.elim id id).elim
  | dead => exact absurd rfl hd

theorem R.lock (h : R η w0 μ s w) {i d : Nat} {o o' : HObj} {t : Tr HObj} (hi : s.h.get i = some o) (hk : lockO o = some o') (ht : Tr.set d s.h i o' = some t) {p : Place} (hp : μ i = some p) (hb : p.blk < w.heap.size) :
    R η (w0.lock w (some i) p.blk hb) μ { s with h := t } w := by
  have hg := Tr.get_set d s.h t i o' ht
  have sub : ∀ j x, t.get j = some x → j ≠ i → s.h.get j = some x := fun j x hj hne => by rwa [hg, if_neg hne] at hj
  have at' : ∀ x, t.get i = some x → x = o' := fun x hx => by rw [hg, if_pos rfl] at hx; exact (Option.some.inj hx).symm
  refine ⟨⟨h.below, Nat.le_refl _, rfl⟩, h.fresh, fun j x hj hd => ?_, fun j k x y a b hjk hj hk' ha hb g hga => ?_, fun j k x y a b hj hk' hy ha hb g hga => ?_, h.mle, h.eold, h.gl⟩
  · by_cases hji : j = i
    · subst hji
      have := at' _ hj
      subst this
      obtain ⟨q, h1, h2, h3⟩ := h.obj j o hi (fun e => by subst e; cases hk)
      rw [hp] at h1; cases h1
      exact ⟨p, hp, lock_hl hk h2 (.inr ⟨rfl, rfl⟩), fun g hg' => ((lockO_own' hk).1 hg').elim⟩
    · have hj' := sub _ _ hj hji
      obtain ⟨q, h1, h2, h3⟩ := h.obj j x hj' hd
      have hne : ∀ g, own x q g → g ≠ p.blk := fun g hg' e => h.dis j i x o q p hji hj' hi h1 hp g hg' ((lockO_own hk).2 e)
      have hnb : ∀ g, bor x q g → g ≠ p.blk := fun g hg' e => h.bdis j i x o q p hj' hi (lockO_rm hk) h1 hp g hg' ((lockO_own hk).2 e)
      exact ⟨q, h1, h2.still (w0 := w0) (β := w0.lock w (some i) p.blk hb) (fun _ h => h) (fun _ h => .inl h) (fun g hb hw => ⟨hw, hnb g hb⟩) (fun g _ _ ho hw => ⟨hw, hne g ho⟩) h.eold (Nat.le_refl _) (fun _ _ => rfl), fun g hg' => wrO_and (h3 g hg') (hne g hg')⟩
  · by_cases hji : j = i
    · subst hji
      have := at' _ hj
      subst this
      exact ((lockO_own' hk).1 hga).elim
    · by_cases hki : k = i
      · subst hki
        have := at' _ hk'
        subst this
        exact fun hgb => ((lockO_own' hk).1 hgb).elim
      · exact h.dis j k x y a b hjk (sub _ _ hj hji) (sub _ _ hk' hki) ha hb g hga
  · by_cases hki : k = i
    · subst hki
      have := at' _ hk'
      subst this
      exact fun hgb => ((lockO_own' hk).1 hgb).elim
    · by_cases hji : j = i
      · subst hji
        have := at' _ hj
        subst this
        exact ((lockO_own' (p := a) (g := g) hk).2.1 hga).elim
      · exact h.bdis j k x y a b (sub _ _ hj hji) (sub _ _ hk' hki) hy ha hb g hga

theorem R.unlock (h : R η w0 μ s w) {i d : Nat} {o o' : HObj} {t : Tr HObj} (hi : s.h.get i = some o) (hk : lockO o = some o') {p : Place} (hp : μ i = some p) (hb : p.blk < w.heap.size)
    (h' : R η (w0.lock w (some i) p.blk hb) μ' s' w') (hl : μ.le μ') (ht : Tr.set d s'.h i o = some t) : R η w0 μ' { s' with h := t } w' := by
  have hg := Tr.get_set d s'.h t i o ht
  have sub : ∀ j x, t.get j = some x → j ≠ i → s'.h.get j = some x := fun j x hj hji => by rw [hg, if_neg hji] at hj; exact hj
  have at' : ∀ x, t.get i = some x → x = o := fun x hx => by rw [hg, if_pos rfl] at hx; exact (Option.some.inj hx).symm
  have hp' := hl _ _ hp
  have hblk : w'.heap[p.blk]? = w.heap[p.blk]? := h'.below.2.2
  obtain ⟨q0, k1, k2, k3⟩ := h.obj i o hi (fun e => by subst e; cases hk)
  rw [hp] at k1; cases k1
  have hoi : Hl η w0 μ' i o p w' := by
    rcases lockO_cases hk with ⟨c, e, rfl, rfl⟩ | ⟨es, k, rfl, rfl⟩ | ⟨c, e, rfl, rfl⟩
    · obtain ⟨cur, h1, h2, h3, h4⟩ := k2
      exact ⟨cur, hblk.trans h1, h2, h3, h4.mono hl⟩
    · obtain ⟨es', h1, h2⟩ := k2
      exact ⟨es', hblk.trans h1, h2.mono hl⟩
    · obtain ⟨cur, h1, h2, h3, h4⟩ := k2
      exact ⟨cur, hblk.trans h1, h2, h3.mono hl, h4⟩
  have ofree : ∀ j x q, s'.h.get j = some x → μ' j = some q → ∀ g, own x q g → g ≠ p.blk := fun j x q hj hq g hg' => h'.free_ne hj hq (.inl hg')
  have bfree : ∀ j x q, s'.h.get j = some x → μ' j = some q → ∀ g, bor x q g → g ≠ p.blk := fun j x q hj hq g hg' => h'.free_ne hj hq (.inr hg')
  refine ⟨h'.below.1, h'.fresh, fun j x hj hd => ?_, fun j k x y a b hjk hj hk' ha hb g hga hgb => ?_, fun j k x y a b hj hk' hy ha hb g hga hgb => ?_, h'.mle, h'.eold, h'.gl⟩
  · by_cases hji : j = i
    · subst hji
      have := at' _ hj
      subst this
      exact ⟨p, hp', hoi, k3⟩
    · have hj' := sub _ _ hj hji
      obtain ⟨q, h1, h2, h3⟩ := h'.obj j x hj' hd
      exact ⟨q, h1, h2.still (w0 := w0.lock w (some i) p.blk hb) (β := w0) (fun _ h => h) (fun g h => h.elim id (fun e => absurd (Option.some.inj e.1).symm hji)) (fun g _ hw => hw.1) (fun _ _ _ _ hw => hw.1) h'.eold (Nat.le_refl _) (fun _ _ => rfl), fun g hg' => wrO_fst (h3 g hg')⟩
  · by_cases hji : j = i
    · subst hji
      have := at' _ hj
      subst this
      rw [hp'] at ha; cases ha
      have hkj : k ≠ j := Ne.symm hjk
      exact ofree k y b (sub _ _ hk' hkj) hb g hgb ((lockO_own hk).1 hga)
    · by_cases hki : k = i
      · subst hki
        have := at' _ hk'
        subst this
        rw [hp'] at hb; cases hb
        exact ofree j x a (sub _ _ hj hji) ha g hga ((lockO_own hk).1 hgb)
      · exact h'.dis j k x y a b hjk (sub _ _ hj hji) (sub _ _ hk' hki) ha hb g hga hgb
  · by_cases hji : j = i
    · subst hji
      have := at' _ hj
      subst this
      exact (lockO_bor hk hga).elim
    · by_cases hki : k = i
      · subst hki
        have := at' _ hk'
        subst this
        rw [hp'] at hb; cases hb
        exact bfree j x a (sub _ _ hj hji) ha g hga ((lockO_own hk).1 hgb)
      · exact h'.bdis j k x y a b (sub _ _ hj hji) (sub _ _ hk' hki) hy ha hb g hga hgb

/-- A block of nobody's is held fast. -/
theorem R.lockG (h : R η w0 μ s w) {b : Nat} (hb : b < w.heap.size) (hr : ∀ i o p, s.h.get i = some o → μ i = some p → ¬ own o p b ∧ ¬ bor o p b) : R η (w0.lock w none b hb) μ s w where
  below := ⟨h.below, Nat.le_refl _, rfl⟩
  fresh := h.fresh
  obj := fun i o hi hd => by
    obtain ⟨p, h1, h2, h3⟩ := h.obj i o hi hd
    exact ⟨p, h1, h2.still (w0 := w0) (β := w0.lock w none b hb) (fun _ h => h) (fun _ h => .inl h) (fun g hg hw => ⟨hw, fun e => by subst e; exact (hr i o p hi h1).2 hg⟩) (fun g _ _ hg hw => ⟨hw, fun e => by subst e; exact (hr i o p hi h1).1 hg⟩) h.eold (Nat.le_refl _) (fun _ _ => rfl), fun g hg => wrO_and (h3 g hg) (fun e => by subst e; exact (hr i o p hi h1).1 hg)⟩
  dis := h.dis
  bdis := h.bdis
  mle := h.mle
  eold := h.eold
  gl := h.gl

/-- An object comes into being, and is held fast. -/
theorem R.allocG (h : R η w0 μ s w) (O : Obj) (hb : w.heap.size < (w.alloc O).heap.size) : R η (w0.lock (w.alloc O) none w.heap.size hb) μ s (w.alloc O) :=
  (h.garbage ((Below.refl _ _).alloc (Nat.le_refl _) _)).lockG hb fun i o p hi hp =>
    ⟨fun hg => Nat.lt_irrefl _ (h.own_lt hi hp (.inl hg)), fun hg => Nat.lt_irrefl _ (h.own_lt hi hp (.inr hg))⟩

/-- The lock of a block of nobody's is given up. -/
theorem R.unlockG {w1 : World} {b : Nat} {hb : b < w1.heap.size} (h : R η (w0.lock w1 none b hb) μ s w) : R η w0 μ s w where
  below := h.below.1
  fresh := h.fresh
  obj := fun i o hi hd => by
    obtain ⟨p, h1, h2, h3⟩ := h.obj i o hi hd
    exact ⟨p, h1, h2.still (w0 := w0.lock w1 none b hb) (β := w0) (fun _ h => h) (fun _ h => h.elim id (fun e => by cases e.1)) (fun g _ hw => hw.1) (fun _ _ _ _ hw => hw.1) h.eold (Nat.le_refl _) (fun _ _ => rfl), fun g hg => wrO_fst (h3 g hg)⟩
  dis := h.dis
  bdis := h.bdis
  mle := h.mle
  eold := h.eold
  gl := h.gl

/-- A block of nobody's that was held fast is taken over. -/
theorem R.adopt {w1 : World} {b : Nat} {hb : b < w1.heap.size} (h : R η (w0.lock w1 none b hb) μ s w) (hwr : w0.wr b) {t : Tr HObj} {d : Nat} (o : HObj) (O : Obj) (room : Nat) (hO : w1.heap[b]? = some O)
    (ht : Tr.set d s.h s.next o = some t) (ho : (∃ c e cur, o = .row c e ∧ O = .cells cur e (0, 0) ∧ room = cur.size ∧ c.length ≤ cur.size ∧ CsR η μ c cur 0) ∨ (o = .map [] 0 ∧ O = .map #[] 0)) :
    R η w0 (μ.put s.next ⟨b, 0, room, undef⟩) { s with h := t, next := s.next + 1 } w := by
  have hle : μ.le (μ.put s.next ⟨b, 0, room, undef⟩) := Mu.put_le (h.fresh _ (Nat.le_refl _))
  have hblk : w.heap[b]? = some O := h.below.2.2.trans hO
  have hown : ∀ g, own o ⟨b, 0, room, undef⟩ g → g = b := fun g hg => by
    rcases ho with ⟨c, e, cur, rfl, _⟩ | ⟨rfl, _⟩ <;> exact hg
  have hnb : ∀ g, ¬ bor o ⟨b, 0, room, undef⟩ g := fun g hg => by
    rcases ho with ⟨c, e, cur, rfl, _⟩ | ⟨rfl, _⟩ <;> exact hg
  refine h.unlockG.add ht (fun _ => ?_) (fun g hg => by rw [hown g hg]; rcases ho with ⟨c, e, cur, rfl, _⟩ | ⟨rfl, _⟩ <;> exact hwr) (fun i o' q hin hi hq g hg => ⟨fun hg' => ?_, fun _ hg' => hnb g hg'⟩) (fun i o' q hin hi hq _ g hg hg' => ?_)
  · rcases ho with ⟨c, e, cur, rfl, k2, k3, k4, k5⟩ | ⟨rfl, k2⟩
    · exact ⟨cur, by rw [hblk, k2], by simp [k3], by rw [k3]; exact k4, k5.mono hle⟩
    · exact ⟨#[], by rw [hblk, k2], rfl, fun j e hj => by simp at hj⟩
  · exact h.free_ne hi hq (.inl hg) (hown g hg')
  · exact h.free_ne hi hq (.inr hg) (hown g hg')

/-- What is not looked at any more. -/
theorem R.kill (h : R η w0 μ s w) {t : Tr HObj} {d i : Nat} (ht : Tr.set d s.h i .dead = some t) : R η w0 μ { s with h := t } w := by
  have hg := Tr.get_set d s.h t i .dead ht
  have sub : ∀ j o, t.get j = some o → o ≠ .dead → s.h.get j = some o := fun j o hj ho => by
    rw [hg] at hj
    by_cases hji : j = i
    · rw [if_pos hji] at hj; cases hj; exact absurd rfl ho
    · rwa [if_neg hji] at hj
  have nd : ∀ (x : HObj) (q : Place) (g : Nat), own x q g ∨ bor x q g → x ≠ .dead := fun x q g hx e => by subst e; exact hx.elim id id
  exact ⟨h.below, h.fresh, fun j o hj hd => h.obj j o (sub _ _ hj hd) hd, fun a b x y pa pb hab ha hb hpa hpb g hga hgb => h.dis a b x y pa pb hab (sub _ _ ha (nd _ _ _ (.inl hga))) (sub _ _ hb (nd _ _ _ (.inl hgb))) hpa hpb g hga hgb,
    fun a b x y pa pb ha hb hy hpa hpb g hga hgb => h.bdis a b x y pa pb (sub _ _ ha (nd _ _ _ (.inr hga))) (sub _ _ hb (nd _ _ _ (.inl hgb))) hy hpa hpb g hga hgb, h.mle, h.eold, h.gl⟩

end
end Go.Hx
