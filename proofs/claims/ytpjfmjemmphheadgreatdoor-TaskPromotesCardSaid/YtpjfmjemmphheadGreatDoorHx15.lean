/- What unknown slices hold; states to begin with; facts about names; contracts on unknown slices. -/
import Derived.Test.YtpjfmjemmphheadGreatDoorHx14
namespace Go.Hx
open Go Go.RowKit

/-! ### Slices that read as lists -/
/-- v is a slice of n elements of z cells each: the cells are l; they lie in blocks of B. -/
def SlF (B : Nat → Prop) (w : World) (z n : Nat) (l : List Value) (v : Value) : Prop :=
  l.length = n * z ∧ ∃ a c, v = .slice a n c ∧ (a = none → n = 0 ∧ c = 0) ∧ ∀ (j : Nat) (u : Value), l[j]? = some u → ∃ b o, a = some ⟨b, o, none⟩ ∧ B b ∧ w.cell? ⟨b, o + j, none⟩ = some u

theorem SlF.mono {B B' : Nat → Prop} {w : World} {z n : Nat} {l : List Value} {v : Value} (h : SlF B w z n l v) (hB : ∀ g, B g → B' g) : SlF B' w z n l v := by
  obtain ⟨h1, a, c, h2, h3, h4⟩ := h
  exact ⟨h1, a, c, h2, h3, fun j u hj => let ⟨b, o, k1, k2, k3⟩ := h4 j u hj; ⟨b, o, k1, hB _ k2, k3⟩⟩

theorem SlF.still {B : Nat → Prop} {w w' : World} {z n : Nat} {l : List Value} {v : Value} (h : SlF B w z n l v) (hB : ∀ g, B g → w'.heap[g]? = w.heap[g]?) : SlF B w' z n l v := by
  obtain ⟨h1, a, c, h2, h3, h4⟩ := h
  exact ⟨h1, a, c, h2, h3, fun j u hj => let ⟨b, o, k1, k2, k3⟩ := h4 j u hj; ⟨b, o, k1, k2, (World.cell?_of_block (hB _ k2)).trans k3⟩⟩

theorem SlF.lt {B : Nat → Prop} {w : World} {z n : Nat} {l : List Value} {v : Value} (h : SlF B w z n l v) : SlF (fun g => B g ∧ g < w.heap.size) w z n l v := by
  obtain ⟨h1, a, c, h2, h3, h4⟩ := h
  refine ⟨h1, a, c, h2, h3, fun j u hj => ?_⟩
  obtain ⟨b, o, k1, k2, k3⟩ := h4 j u hj
  refine ⟨b, o, k1, ⟨k2, ?_⟩, k3⟩
  rcases Nat.lt_or_ge b w.heap.size with h | h
  · exact h
  · simp [World.cell?, Array.getElem?_eq_none h] at k3

/-- The same, and it lies in a row of its own. -/
def RowF (e : TypeId) (B : Nat → Prop) (w : World) (z n : Nat) (l : List Value) (v : Value) : Prop :=
  SlF B w z n l v ∧ (0 < n → ∃ b o c cur, v = .slice (some ⟨b, o, none⟩) n c ∧ B b ∧ w.heap[b]? = some (.cells cur e (0, 0)) ∧ o + n * z ≤ cur.size)
theorem RowF.mono {e : TypeId} {B B' : Nat → Prop} {w : World} {z n : Nat} {l : List Value} {v : Value} (h : RowF e B w z n l v) (hB : ∀ g, B g → B' g) : RowF e B' w z n l v :=
  ⟨h.1.mono hB, fun hn => let ⟨b, o, c, cur, h1, h2, h3, h4⟩ := h.2 hn; ⟨b, o, c, cur, h1, hB _ h2, h3, h4⟩⟩
theorem RowF.still {e : TypeId} {B : Nat → Prop} {w w' : World} {z n : Nat} {l : List Value} {v : Value} (h : RowF e B w z n l v) (hB : ∀ g, B g → w'.heap[g]? = w.heap[g]?) : RowF e B w' z n l v :=
  ⟨h.1.still hB, fun hn => let ⟨b, o, c, cur, h1, h2, h3, h4⟩ := h.2 hn; ⟨b, o, c, cur, h1, h2, (hB _ h2).trans h3, h4⟩⟩
theorem RowF.lt {e : TypeId} {B : Nat → Prop} {w : World} {z n : Nat} {l : List Value} {v : Value} (h : RowF e B w z n l v) : RowF e (fun g => B g ∧ g < w.heap.size) w z n l v :=
  ⟨h.1.lt, fun hn => let ⟨b, o, c, cur, h1, h2, h3, h4⟩ := h.2 hn; ⟨b, o, c, cur, h1, ⟨h2, block_lt h3⟩, h3, h4⟩⟩

/-- An object: its number, how many fields, their cells. -/
abbrev Ob := Int × Nat × List Value

def ObsF (B : Nat → Prop) (w : World) (L : List Ob) (v : Value) : Prop :=
  ∃ cells, SlF B w 2 L.length cells v ∧ ∀ (i : Nat) (o : Ob), L[i]? = some o → cells[2 * i]? = some (.int .i64 o.1) ∧ ∃ fv, cells[2 * i + 1]? = some fv ∧ SlF B w 2 o.2.1 o.2.2 fv

theorem ObsF.mono {B B' : Nat → Prop} {w : World} {L : List Ob} {v : Value} (h : ObsF B w L v) (hB : ∀ g, B g → B' g) : ObsF B' w L v := by
  obtain ⟨c, h1, h2⟩ := h
  exact ⟨c, h1.mono hB, fun i o ho => let ⟨k1, fv, k2, k3⟩ := h2 i o ho; ⟨k1, fv, k2, k3.mono hB⟩⟩
theorem ObsF.still {B : Nat → Prop} {w w' : World} {L : List Ob} {v : Value} (h : ObsF B w L v) (hB : ∀ g, B g → w'.heap[g]? = w.heap[g]?) : ObsF B w' L v := by
  obtain ⟨c, h1, h2⟩ := h
  exact ⟨c, h1.still hB, fun i o ho => let ⟨k1, fv, k2, k3⟩ := h2 i o ho; ⟨k1, fv, k2, k3.still hB⟩⟩
theorem ObsF.lt {B : Nat → Prop} {w : World} {L : List Ob} {v : Value} (h : ObsF B w L v) : ObsF (fun g => B g ∧ g < w.heap.size) w L v := by
  obtain ⟨c, h1, h2⟩ := h
  exact ⟨c, h1.lt, fun i o ho => let ⟨k1, fv, k2, k3⟩ := h2 i o ho; ⟨k1, fv, k2, k3.lt⟩⟩

inductive Dat where
  | flat (z n : Nat) (l : List Value)
  | obs (L : List Ob)
  | row (e : TypeId) (z n : Nat) (l : List Value)

def Dat.ok : Dat → (Nat → Prop) → World → Value → Prop
  | .flat z n l, B, w, v => SlF B w z n l v
  | .obs L, B, w, v => ObsF B w L v
  | .row e z n l, B, w, v => RowF e B w z n l v

theorem Dat.mono {B B' : Nat → Prop} {w : World} {v : Value} : ∀ {d : Dat}, d.ok B w v → (∀ g, B g → B' g) → d.ok B' w v
  | .flat _ _ _, h, hB => SlF.mono h hB
  | .obs _, h, hB => ObsF.mono h hB
  | .row _ _ _ _, h, hB => RowF.mono h hB
theorem Dat.still {B : Nat → Prop} {w w' : World} {v : Value} : ∀ {d : Dat}, d.ok B w v → (∀ g, B g → w'.heap[g]? = w.heap[g]?) → d.ok B w' v
  | .flat _ _ _, h, hB => SlF.still h hB
  | .obs _, h, hB => ObsF.still h hB
  | .row _ _ _ _, h, hB => RowF.still h hB
theorem Dat.lt {B : Nat → Prop} {w : World} {v : Value} : ∀ {d : Dat}, d.ok B w v → d.ok (fun g => B g ∧ g < w.heap.size) w v
  | .flat _ _ _, h => SlF.lt h
  | .obs _, h => ObsF.lt h
  | .row _ _ _ _, h => RowF.lt h
theorem Dat.slice {B : Nat → Prop} {w : World} {v : Value} : ∀ {d : Dat}, d.ok B w v → ∃ a n c, v = .slice a n c
  | .flat _ _ _, h => let ⟨_, a, c, h2, _⟩ := h; ⟨a, _, c, h2⟩
  | .obs _, h => let ⟨_, ⟨_, a, c, h2, _⟩, _⟩ := h; ⟨a, _, c, h2⟩
  | .row _ _ _ _, h => let ⟨⟨_, a, c, h2, _⟩, _⟩ := h; ⟨a, _, c, h2⟩
def Dat.len : Dat → Nat
  | .flat _ n _ => n
  | .obs L => L.length
  | .row _ _ n _ => n
theorem Dat.slice' {B : Nat → Prop} {w : World} {v : Value} : ∀ {d : Dat}, d.ok B w v → ∃ a c, v = .slice a d.len c
  | .flat _ _ _, h => let ⟨_, a, c, h2, _⟩ := h; ⟨a, c, h2⟩
  | .obs _, h => let ⟨_, ⟨_, a, c, h2, _⟩, _⟩ := h; ⟨a, c, h2⟩
  | .row _ _ _ _, h => let ⟨⟨_, a, c, h2, _⟩, _⟩ := h; ⟨a, c, h2⟩

/-! ### Environments -/
def nm (l : List Int) (n : Int) : Int := l.getD (if n < TOK then n.toNat else (n - TOK).toNat) 0

/-- (The Bool says: in blocks of its own alone.) -/
def envD (l : List Int) (m : Mu) (old : Nat → Prop) (D : Nat → Bool × Dat) : Env where
  i := nm l
  m := m
  old := old
  psi := fun k b n w v => (D k).2.ok (fun g => ((D k).1 = false ∧ old g) ∨ (b ≤ g ∧ g < b + n)) w v
  stays := fun _ _ _ _ _ _ h hs => Dat.still h fun g hg => hs g (hg.imp And.right id)

theorem dn_envD {l : List Int} {m : Mu} {old : Nat → Prop} {D : Nat → Bool × Dat} (j : Nat) : dn (envD l m old D) (TOK + j) = l.getD j 0 := by
  have h : ¬ (TOK + (j : Int) < TOK) := by omega
  simp only [dn, if_neg h, envD, nm]
  congr 1
  omega
theorem bt_envD {l : List Int} {m : Mu} {old : Nat → Prop} {D : Nat → Bool × Dat} (j : Nat) (hj : (j : Int) < TOK) : (envD l m old D).i (j : Int) = l.getD j 0 := by
  simp [envD, nm, hj]

/-! ### States to begin with -/
def rowsT : List (Nat × HObj) → Tr HObj → Option (Tr HObj)
  | [], t => some t
  | (i, o) :: l, t => match Tr.set 64 t i o with
    | some t' => rowsT l t'
    | none => none

theorem rowsT_get : ∀ (l : List (Nat × HObj)) (t t' : Tr HObj), rowsT l t = some t' → ∀ i o, t'.get i = some o → (i, o) ∈ l ∨ t.get i = some o := by
  intro l
  induction l with
  | nil => intro t t' h i o hi; cases h; exact .inr hi
  | cons x l ih =>
    obtain ⟨j, q⟩ := x
    intro t t' h i o hi
    simp only [rowsT] at h
    split at h
    · rename_i t1 h1
      rcases ih _ _ h i o hi with h2 | h2
      · exact .inl (List.mem_cons_of_mem _ h2)
      · rw [Tr.get_set 64 t t1 j q h1] at h2
        by_cases hij : i = j
        · rw [if_pos hij] at h2; cases h2; subst hij; exact .inl (List.mem_cons_self ..)
        · rw [if_neg hij] at h2; exact .inr h2
    · cases h

/-- A state with these rows. -/
def stR (l : List (Nat × HObj)) (next ng : Nat) : St := ⟨(rowsT l .lf).getD .lf, next, ng⟩

theorem stR_get {l : List (Nat × HObj)} {next ng i : Nat} {o : HObj} (h : (stR l next ng).h.get i = some o) : (i, o) ∈ l := by
  unfold stR at h
  simp only at h
  cases ht : rowsT l .lf with
  | none => rw [ht] at h; cases h
  | some t =>
    rw [ht] at h
    rcases rowsT_get l .lf t ht i o h with h2 | h2
    · exact h2
    · cases h2

/-- Rows that are read alone, unknown slices with no blocks of their own, a window. -/
theorem R.startW {η : Env} {β : Base} {w : World} {l : List (Nat × HObj)} {next ng : Nat} (hok : β.ok w) (hf : ∀ i, next ≤ i → η.m i = none) (ho : ∀ g, η.old g → β.rd g) (hgl : ∀ g, g < ng → ∃ p, η.m g = some p ∧ p.blk = g ∧ p.base = 0)
    (hl : ∀ i o, (i, o) ∈ l → ∃ p, η.m i = some p ∧ ((∃ c, o = .ro c ∧ β.rd p.blk ∧ ClR η η.m c p w) ∨ (∃ k, o = .tok k ∧ p.room = 0 ∧ p.blk ≤ w.heap.size ∧ η.psi k p.blk 0 w p.val) ∨
      (∃ c e, o = .win c e ∧ Hl η β η.m i (.win c e) p w))) (hone : ∀ i j c e c' e', (i, HObj.win c e) ∈ l → (j, HObj.win c' e') ∈ l → i = j) :
    R η β η.m (stR l next ng) w := by
  have hno : ∀ i o p, (stR l next ng).h.get i = some o → η.m i = some p → ∀ g, (own o p g → ∃ c e, o = .win c e) ∧ ¬ bor o p g := fun i o p hi hp g => by
    obtain ⟨q, h1, h2⟩ := hl i o (stR_get hi)
    rw [hp] at h1; cases h1
    rcases h2 with ⟨c, rfl, _⟩ | ⟨k, rfl, h3, _⟩ | ⟨c, e, rfl, _⟩
    · exact ⟨fun h => h.elim, id⟩
    · exact ⟨fun hg => by have h1 := hg.1; have h2 := hg.2; omega, id⟩
    · exact ⟨fun _ => ⟨_, _, rfl⟩, id⟩
  refine ⟨hok, hf, fun i o hi hd => ?_, fun i j o o' p q hij hi hj hp hq g hg hg' => ?_, fun i j o o' p q hi hj _ hp hq g hg => ((hno i o p hi hp g).2 hg).elim, Mu.le_refl _, ho, hgl⟩
  · obtain ⟨p, h1, h2⟩ := hl i o (stR_get hi)
    refine ⟨p, h1, ?_, fun g hg => ?_⟩
    · rcases h2 with ⟨c, rfl, h3, h4⟩ | ⟨k, rfl, h3, h4, h5⟩ | ⟨c, e, rfl, h3⟩
      · exact ⟨h3, h4⟩
      · exact ⟨by omega, by rw [h3]; exact h5⟩
      · exact h3
    · obtain ⟨c, e, rfl⟩ := (hno i o p hi h1 g).1 hg
      trivial
  · obtain ⟨c, e, rfl⟩ := (hno i o p hi hp g).1 hg
    obtain ⟨c', e', rfl⟩ := (hno j o' q hj hq g).1 hg'
    exact hij (hone i j c e c' e' (stR_get hi) (stR_get hj))

theorem R.start {η : Env} {β : Base} {w : World} {l : List (Nat × HObj)} {next ng : Nat} (hok : β.ok w) (hf : ∀ i, next ≤ i → η.m i = none) (ho : ∀ g, η.old g → β.rd g) (hgl : ∀ g, g < ng → ∃ p, η.m g = some p ∧ p.blk = g ∧ p.base = 0)
    (hl : ∀ i o, (i, o) ∈ l → ∃ p, η.m i = some p ∧ ((∃ c, o = .ro c ∧ β.rd p.blk ∧ ClR η η.m c p w) ∨ (∃ k, o = .tok k ∧ p.room = 0 ∧ p.blk ≤ w.heap.size ∧ η.psi k p.blk 0 w p.val))) :
    R η β η.m (stR l next ng) w :=
  R.startW hok hf ho hgl (fun i o hio => let ⟨p, h1, h2⟩ := hl i o hio; ⟨p, h1, h2.elim .inl (fun h => .inr (.inl h))⟩) fun i j c e c' e' hi hj => by
    obtain ⟨p, _, h2⟩ := hl i _ hi
    rcases h2 with ⟨_, e, _⟩ | ⟨_, e, _⟩ <;> cases e

/-- All that stands is held fast, but for some cells of one block. -/
def Base.wind (w : World) (b lo hi : Nat) (hb : b < w.heap.size) : Base where
  ok := fun w' => w'.os = w.os ∧ w'.tape = w.tape ∧ w'.output = w.output ∧ w.heap.size ≤ w'.heap.size ∧ (∀ k, k < w.heap.size → k ≠ b → w'.heap[k]? = w.heap[k]?) ∧
    ∀ cur e, w.heap[b]? = some (.cells cur e (0, 0)) → ∃ cur', w'.heap[b]? = some (.cells cur' e (0, 0)) ∧ cur'.size = cur.size ∧ ∀ j, j < lo ∨ hi ≤ j → cur'[j]? = cur[j]?
  wr := fun g => w.heap.size ≤ g
  rd := fun g => g < w.heap.size ∧ g ≠ b
  lk := fun _ _ => False
  win := fun g l h => g = b ∧ l = lo ∧ h = hi
  garbage := fun x y h k => ⟨k.os.trans h.1, k.tape.trans h.2.1, k.output.trans h.2.2.1, Nat.le_trans h.2.2.2.1 k.size, fun i hi hne => (k.block i (Nat.lt_of_lt_of_le hi h.2.2.2.1)).trans (h.2.2.2.2.1 i hi hne),
    fun cur e hc => let ⟨cur', h1, h2, h3⟩ := h.2.2.2.2.2 cur e hc; ⟨cur', (k.block b (Nat.lt_of_lt_of_le hb h.2.2.2.1)).trans h1, h2, h3⟩⟩
  upd := fun x y g h hg k => ⟨k.os.trans h.1, k.tape.trans h.2.1, k.output.trans h.2.2.1, Nat.le_trans h.2.2.2.1 (Nat.le_of_eq k.size.symm), fun i hi hne => (k.block i (by omega)).trans (h.2.2.2.2.1 i hi hne),
    fun cur e hc => let ⟨cur', h1, h2, h3⟩ := h.2.2.2.2.2 cur e hc; ⟨cur', (k.block b (by omega)).trans h1, h2, h3⟩⟩
  updw := fun x y g l r h hg k => by
    obtain ⟨rfl, rfl, rfl⟩ := hg
    refine ⟨k.off.os.trans h.1, k.off.tape.trans h.2.1, k.off.output.trans h.2.2.1, Nat.le_trans h.2.2.2.1 (Nat.le_of_eq k.off.size.symm), fun i hi hne => (k.off.block i hne).trans (h.2.2.2.2.1 i hi hne), fun cur e hc => ?_⟩
    obtain ⟨cur', h1, h2, h3⟩ := h.2.2.2.2.2 cur e hc
    obtain ⟨cur2, h4, h5, h6⟩ := k.win cur' e h1
    exact ⟨cur2, h4, h5.trans h2, fun j hj => (h6 j hj).trans (h3 j hj)⟩
  fresh := fun a g h hg => Nat.le_trans h.2.2.2.1 hg
  apart := fun g h k => by have := h.1; omega
  lapart := fun _ _ h => h.elim
  old := fun a g h k => Nat.lt_of_lt_of_le k.1 h.2.2.2.1
  lold := fun _ _ _ _ h => h.elim
  rdok := fun x y g h k hg => (k.2.2.2.2.1 g hg.1 hg.2).trans (h.2.2.2.2.1 g hg.1 hg.2).symm
  lkok := fun _ _ _ _ _ _ h => h.elim

theorem Base.wind_refl {w : World} {b lo hi : Nat} {hb : b < w.heap.size} : (Base.wind w b lo hi hb).ok w :=
  ⟨rfl, rfl, rfl, Nat.le_refl _, fun _ _ _ => rfl, fun cur e hc => ⟨cur, hc, rfl, fun _ _ => rfl⟩⟩

/-- An unknown slice with blocks of its own, just made. -/
theorem R.newTok {η : Env} {β : Base} {μ : Mu} {s : St} {w w' : World} (h : R η β μ s w) (hb : Below w.heap.size w w') {t : Tr HObj} {d k : Nat} {v : Value} (ht : Tr.set d s.h s.next (.tok k) = some t)
    (hpsi : η.psi k w.heap.size (w'.heap.size - w.heap.size) w' v) : R η β (μ.put s.next ⟨w.heap.size, 0, w'.heap.size - w.heap.size, v⟩) { s with h := t, next := s.next + 1 } w' := by
  have hsz := hb.size
  refine (h.garbage hb).add ht (fun _ => ⟨by show w.heap.size + (w'.heap.size - w.heap.size) ≤ _; omega, hpsi⟩) (fun g hg => β.fresh w g h.below hg.1) (fun i o' q hin hi hq g hg => ⟨fun hg' => ?_, fun _ hg' => hg'⟩) (fun i o' q hin hi hq hrm => ?_)
  · have := h.own_lt hi hq (.inl hg)
    have := hg'.1
    simp only at this
    omega
  · rcases hrm with ⟨_, _, e⟩ | ⟨_, _, e⟩ | ⟨_, _, e⟩ <;> cases e

/-! ### append to nothing -/
theorem run_append_clone {P : Program} {w : World} {t ty e : TypeId} {f : TypeInfo} {z0 : Value} (ht : P.underlying t = some (.slice e)) (hi : P.info? e = some f) (hz : f.zero = some z0) (hzs : z0.cells.size = f.size) {d : Value} (hd : d = .slice none 0 0 ∨ ∃ b, d = .slice (some b) 0 0)
    {B : Nat → Prop} {n : Nat} {l : List Value} {v : Value} (hs : SlF B w f.size n l v) (hb : n * f.bytes ≤ 140737488355328) (hml : n ≤ maxLen) :
    ∃ v' w', (Builtin.append_ #[t, t] ty #[d, v]).run P w = .ok v' w' ∧ Below w.heap.size w w' ∧ RowF e (fun g => w.heap.size ≤ g ∧ g < w'.heap.size) w' f.size n l v' := by
  obtain ⟨hl, a, c, rfl, hn, hc⟩ := hs
  have h63 : (n : Int) ≤ 9223372036854775807 := by simp only [maxLen] at hml; omega
  by_cases h0 : n = 0
  · subst h0
    have hl0 : l = [] := by simpa using hl
    subst hl0
    rcases hd with rfl | ⟨b, rfl⟩
    · exact ⟨_, w, run_append_zero t ty e f ht hi _ _ _ _ _ (Nat.le_refl _) w, Below.refl _ _, ⟨by simp, none, 0, rfl, fun _ => ⟨rfl, rfl⟩, fun j u hj => by simp at hj⟩, fun h => absurd h (Nat.lt_irrefl _)⟩
    · exact ⟨_, w, run_append_zero t ty e f ht hi _ _ _ _ _ (Nat.le_refl _) w, Below.refl _ _, ⟨by simp, some b, 0, rfl, fun h => (by cases h), fun j u hj => by simp at hj⟩, fun h => absurd h (Nat.lt_irrefl _)⟩
  · have hpos : 0 < n := by omega
    obtain ⟨ad, rfl⟩ : ∃ ad, a = some ad := by
      cases a with
      | none => exact absurd (hn rfl).1 h0
      | some ad => exact ⟨ad, rfl⟩
    have hcells : ∀ (j : Nat) (u : Value), l[j]? = some u → w.cell? (ad.add j) = some u := fun j u hj => by
      obtain ⟨b, o, k1, _, k3⟩ := hc j u hj
      cases k1
      rw [add_plain']
      exact k3
    have fin : ∀ (cap : Nat), n ≤ cap → ∀ w1 : World, w1 = w.drew.alloc (.cells (l.toArray ++ Builtin.zeroCells z0.cells (cap - n)) e) →
        Below w.heap.size w w1 ∧ RowF e (fun g => w.heap.size ≤ g ∧ g < w1.heap.size) w1 f.size n l (.slice (some ⟨w.heap.size, 0, none⟩) n cap) := by
      intro cap hcap w1 hw1
      subst hw1
      have hds : w.drew.heap.size = w.heap.size := rfl
      have hnew := heap_alloc_new w.drew (.cells (l.toArray ++ Builtin.zeroCells z0.cells (cap - n)) e)
      rw [hds] at hnew
      refine ⟨((Below.refl _ _).drew).alloc (Nat.le_of_eq hds.symm) _, ⟨hl, _, _, rfl, fun h => (by cases h), fun j u hj => ⟨w.heap.size, 0, rfl, ⟨Nat.le_refl _, by simp⟩, ?_⟩⟩, fun _ => ⟨_, _, _, _, rfl, ⟨Nat.le_refl _, by simp⟩, hnew, by simp; omega⟩⟩
      rw [cell_of_row _ w.heap.size (0 + j) _ e (0, 0) hnew]
      have hlt := (List.getElem?_eq_some_iff.1 hj).1
      rw [Nat.zero_add, Array.getElem?_append_left (by simpa using hlt)]
      simpa using hj
    have hg := fun (k : Nat) => grownCap_ge w k 0 e
    rcases hd with rfl | ⟨b, rfl⟩
    · have hrun := run_append_nil (P := P) w t ty e f z0 ht hi hz ad n c l hl hcells hpos h63 (by omega)
      exact ⟨_, _, hrun, fin (grownCap w n 0 e) (grownCap_ge _ _ _ _) _ rfl⟩
    · have hrun := run_append_grow (P := P) w t ty e f z0 ht hi hz b 0 0 [] (by simp) (fun j u hj => by simp at hj) ad n c l hl hcells (by omega) (by simpa using h63) (by have := growslice_fits (need := 0 + n) (old := 0) (bytes := f.bytes) (by omega) (by simpa using hb); exact this)
      have := fin (grownCap w (0 + n) 0 e) (by have := grownCap_ge w (0 + n) 0 e; omega) _ rfl
      refine ⟨_, _, hrun, ?_⟩
      have e1 : (([] : List Value).toArray ++ l.toArray ++ Builtin.zeroCells z0.cells (grownCap w (0 + n) 0 e - (0 + n))) = l.toArray ++ Builtin.zeroCells z0.cells (grownCap w (0 + n) 0 e - n) := by simp
      rw [e1]
      simpa using this

end Go.Hx
