/- The abstract heap and the model's world: what each object says of the world, whose blocks are whose, and how the relation is carried along. -/
import Derived.Test.YtpjfmjemmphheadGreatDoorHx1
namespace Go.Hx
open Go Go.RowKit

inductive HObj where
  | row (c : List Value) (e : TypeId)
  | ro (c : List Value)
  | map (es : List MapEntry) (clock : Nat)
  | tok (k : Nat)
  | rm (es : List MapEntry) (clock : Nat)
  | lk (c : List Value)
  | el (c : List Value)
  | win (c : List Value) (e : TypeId)
  | dead

structure St where
  h : Tr HObj
  next : Nat
  ng : Nat

def EsR (η : Env) (μ : Mu) (es es' : List MapEntry) : Prop :=
  es.length = es'.length ∧ ∀ (j : Nat) (e : MapEntry), es[j]? = some e → ∃ e', es'[j]? = some e' ∧ VR η μ e.key e'.key ∧ VR η μ e.val e'.val ∧ e.born = e'.born

def CsR (η : Env) (μ : Mu) (c : List Value) (cur : Array Value) (base : Nat) : Prop :=
  ∀ (j : Nat) (v : Value), c[j]? = some v → ∃ v', cur[base + j]? = some v' ∧ VR η μ v v'

/-- The cells from a place on. -/
def ClR (η : Env) (μ : Mu) (c : List Value) (p : Place) (w : World) : Prop :=
  ∀ (j : Nat) (v : Value), c[j]? = some v → ∃ v', w.cell? ⟨p.blk, p.base + j, none⟩ = some v' ∧ VR η μ v v'

/-- One block is another one, nothing else is. -/
structure Off (g : Nat) (w w' : World) : Prop where
  os : w'.os = w.os
  tape : w'.tape = w.tape
  output : w'.output = w.output
  size : w'.heap.size = w.heap.size
  block : ∀ k, k ≠ g → w'.heap[k]? = w.heap[k]?

/-- Some cells of one block are other ones, nothing else is. -/
structure OffW (g lo hi : Nat) (w w' : World) : Prop where
  off : Off g w w'
  win : ∀ cur e, w.heap[g]? = some (.cells cur e (0, 0)) → ∃ cur', w'.heap[g]? = some (.cells cur' e (0, 0)) ∧ cur'.size = cur.size ∧ ∀ j, j < lo ∨ hi ≤ j → cur'[j]? = cur[j]?

/-- What is asked of the world: which blocks may be written (in some, some cells alone), which are read alone. -/
structure Base where
  ok : World → Prop
  wr : Nat → Prop
  rd : Nat → Prop
  lk : Nat → Nat → Prop
  win : Nat → Nat → Nat → Prop
  garbage : ∀ w w', ok w → Below w.heap.size w w' → ok w'
  upd : ∀ w w' g, ok w → wr g → Off g w w' → ok w'
  updw : ∀ w w' g lo hi, ok w → win g lo hi → OffW g lo hi w w' → ok w'
  fresh : ∀ w g, ok w → w.heap.size ≤ g → wr g
  apart : ∀ b, rd b → ¬ wr b
  lapart : ∀ i b, lk i b → ¬ wr b
  old : ∀ w b, ok w → rd b → b < w.heap.size
  lold : ∀ w i b, ok w → lk i b → b < w.heap.size
  rdok : ∀ w w' b, ok w → ok w' → rd b → w'.heap[b]? = w.heap[b]?
  lkok : ∀ w w' i b, ok w → ok w' → lk i b → w'.heap[b]? = w.heap[b]?

/-- All that stands is held fast. -/
def Base.of (w : World) : Base where
  ok := fun w' => Below w.heap.size w w'
  wr := fun g => w.heap.size ≤ g
  rd := fun g => g < w.heap.size
  lk := fun _ _ => False
  win := fun _ _ _ => False
  updw := fun _ _ _ _ _ _ h => h.elim
  garbage := fun a b h k => h.trans (k.mono h.size)
  upd := fun a b g h hg k => ⟨k.os.trans h.os, k.tape.trans h.tape, k.output.trans h.output, Nat.le_trans h.size (Nat.le_of_eq k.size.symm), fun i hi => (k.block i (by omega)).trans (h.block i hi)⟩
  fresh := fun a g h hg => Nat.le_trans h.size hg
  apart := fun b h k => by omega
  lapart := fun _ _ h => h.elim
  lold := fun _ _ _ _ h => h.elim
  lkok := fun _ _ _ _ _ _ h => h.elim
  old := fun a b h k => Nat.lt_of_lt_of_le k h.size
  rdok := fun a b g h k hg => (k.block g hg).trans (h.block g hg).symm

/-- One block is held fast, too (that of a row or map, or of nobody). -/
def Base.lock (β : Base) (w : World) (io : Option Nat) (b : Nat) (hb : b < w.heap.size) : Base where
  ok := fun w' => β.ok w' ∧ w.heap.size ≤ w'.heap.size ∧ w'.heap[b]? = w.heap[b]?
  wr := fun g => β.wr g ∧ g ≠ b
  rd := β.rd
  lk := fun i g => β.lk i g ∨ (io = some i ∧ g = b)
  win := fun g lo hi => β.win g lo hi ∧ g ≠ b
  updw := fun a c g lo hi h hg k => ⟨β.updw a c g lo hi h.1 hg.1 k, Nat.le_trans h.2.1 (Nat.le_of_eq k.off.size.symm), (k.off.block b (Ne.symm hg.2)).trans h.2.2⟩
  garbage := fun a c h k => ⟨β.garbage a c h.1 k, Nat.le_trans h.2.1 k.size, (k.block b (Nat.lt_of_lt_of_le hb h.2.1)).trans h.2.2⟩
  upd := fun a c g h hg k => ⟨β.upd a c g h.1 hg.1 k, Nat.le_trans h.2.1 (Nat.le_of_eq k.size.symm), (k.block b (Ne.symm hg.2)).trans h.2.2⟩
  fresh := fun a g h hg => ⟨β.fresh a g h.1 hg, fun e => by have := h.2.1; omega⟩
  apart := fun g h k => β.apart g h k.1
  lapart := fun i g h k => h.elim (fun h => β.lapart i g h k.1) (fun h => k.2 h.2)
  old := fun a g h k => β.old a g h.1 k
  lold := fun a i g h k => k.elim (β.lold a i g h.1) (fun e => by rw [e.2]; exact Nat.lt_of_lt_of_le hb h.2.1)
  rdok := fun a c g h k hg => β.rdok a c g h.1 k.1 hg
  lkok := fun a c i g h k hg => hg.elim (β.lkok a c i g h.1 k.1) (fun e => by rw [e.2]; exact k.2.2.trans h.2.2.symm)

/-- What an object says of the world. -/
def Hl (η : Env) (β : Base) (μ : Mu) (i : Nat) (o : HObj) (p : Place) (w : World) : Prop :=
  match o with
  | .row c e => ∃ cur, w.heap[p.blk]? = some (.cells cur e (0, 0)) ∧ p.base + p.room = cur.size ∧ c.length ≤ p.room ∧ CsR η μ c cur p.base
  | .ro c => β.rd p.blk ∧ ClR η μ c p w
  | .lk c => β.lk i p.blk ∧ ClR η μ c p w
  | .map es k => ∃ es', w.heap[p.blk]? = some (.map es' k) ∧ EsR η μ es es'.toList
  | .rm es k => ∃ es', β.lk i p.blk ∧ w.heap[p.blk]? = some (.map es' k) ∧ EsR η μ es es'.toList
  | .tok k => p.blk + p.room ≤ w.heap.size ∧ η.psi k p.blk p.room w p.val
  | .el c => p.blk < w.heap.size ∧ β.wr p.blk ∧ ClR η μ c p w
  | .win c e => ∃ cur, w.heap[p.blk]? = some (.cells cur e (0, 0)) ∧ p.base + c.length ≤ cur.size ∧ CsR η μ c cur p.base ∧ β.win p.blk p.base (p.base + c.length)
  | .dead => True

/-- The blocks that are an object's own. -/
def own (o : HObj) (p : Place) (g : Nat) : Prop :=
  match o with
  | .row _ _ => g = p.blk
  | .map _ _ => g = p.blk
  | .tok _ => p.blk ≤ g ∧ g < p.blk + p.room
  | .win _ _ => g = p.blk
  | _ => False

/-- The block that an object reads and that is not its own: it is no row's and no map's. -/
def bor (o : HObj) (p : Place) (g : Nat) : Prop :=
  match o with
  | .el _ => g = p.blk
  | _ => False

def isRM (o : HObj) : Prop := (∃ c e, o = .row c e) ∨ (∃ es k, o = .map es k) ∨ (∃ c e, o = .win c e)
/-- An object's own block may be written. -/
def wrO (β : Base) (o : HObj) (g : Nat) : Prop :=
  match o with
  | .win _ _ => True
  | _ => β.wr g
def notDead (o : HObj) : Prop := o ≠ .dead

structure R (η : Env) (w0 : Base) (μ : Mu) (s : St) (w : World) : Prop where
  below : w0.ok w
  fresh : ∀ i, s.next ≤ i → μ i = none
  obj : ∀ i o, s.h.get i = some o → o ≠ .dead → ∃ p, μ i = some p ∧ Hl η w0 μ i o p w ∧ ∀ g, own o p g → wrO w0 o g
  dis : ∀ i j o o' p q, i ≠ j → s.h.get i = some o → s.h.get j = some o' → μ i = some p → μ j = some q → ∀ g, own o p g → ¬ own o' q g
  bdis : ∀ i j o o' p q, s.h.get i = some o → s.h.get j = some o' → isRM o' → μ i = some p → μ j = some q → ∀ g, bor o p g → ¬ own o' q g
  mle : η.m.le μ
  eold : ∀ g, η.old g → w0.rd g
  gl : ∀ g, g < s.ng → ∃ p, μ g = some p ∧ p.blk = g ∧ p.base = 0

def Mu.put (μ : Mu) (i : Nat) (p : Place) : Mu := fun j => if j = i then some p else μ j
theorem Mu.put_le {μ : Mu} {i : Nat} {p : Place} (h : μ i = none) : μ.le (μ.put i p) := fun j q hj => by
  unfold Mu.put
  by_cases hji : j = i
  · subst hji; rw [h] at hj; cases hj
  · rw [if_neg hji]; exact hj
theorem Mu.put_same (μ : Mu) (i : Nat) (p : Place) : (μ.put i p) i = some p := by simp [Mu.put]
theorem Mu.put_other {μ : Mu} {i j : Nat} {p : Place} (h : j ≠ i) : (μ.put i p) j = μ j := by simp [Mu.put, h]

theorem CsR.mono {η : Env} {μ ν : Mu} (h : μ.le ν) {c : List Value} {cur : Array Value} {b : Nat} (k : CsR η μ c cur b) : CsR η ν c cur b := fun j v hj =>
  let ⟨v', h1, h2⟩ := k j v hj
  ⟨v', h1, h2.mono h⟩
theorem ClR.mono {η : Env} {μ ν : Mu} (h : μ.le ν) {c : List Value} {p : Place} {w : World} (k : ClR η μ c p w) : ClR η ν c p w := fun j v hj =>
  let ⟨v', h1, h2⟩ := k j v hj
  ⟨v', h1, h2.mono h⟩
theorem ClR.block {η : Env} {μ : Mu} {c : List Value} {p : Place} {w w' : World} (h : w'.heap[p.blk]? = w.heap[p.blk]?) (k : ClR η μ c p w) : ClR η μ c p w' := fun j v hj =>
  let ⟨v', h1, h2⟩ := k j v hj
  ⟨v', (World.cell?_of_block h).trans h1, h2⟩
theorem EsR.mono {η : Env} {μ ν : Mu} (h : μ.le ν) {es es' : List MapEntry} (k : EsR η μ es es') : EsR η ν es es' :=
  ⟨k.1, fun j e hj => let ⟨e', h1, h2, h3, h4⟩ := k.2 j e hj; ⟨e', h1, h2.mono h, h3.mono h, h4⟩⟩

section
variable {η : Env} {w0 : Base} {μ : Mu} {s : St} {w : World}

theorem block_lt {w : World} {g : Nat} {o : Obj} (h : w.heap[g]? = some o) : g < w.heap.size := by
  rcases Nat.lt_or_ge g w.heap.size with h' | h'
  · exact h'
  · rw [Array.getElem?_eq_none h'] at h; cases h

theorem Hl.mono {ν : Mu} (h : μ.le ν) {i : Nat} {o : HObj} {p : Place} (k : Hl η w0 μ i o p w) : Hl η w0 ν i o p w := by
  cases o with
  | row c e => obtain ⟨cur, h1, h2, h3, h4⟩ := k; exact ⟨cur, h1, h2, h3, h4.mono h⟩
  | ro c => exact ⟨k.1, k.2.mono h⟩
  | lk c => exact ⟨k.1, k.2.mono h⟩
  | map es c => obtain ⟨es', h1, h2⟩ := k; exact ⟨es', h1, h2.mono h⟩
  | rm es c => obtain ⟨es', h1, h2, h3⟩ := k; exact ⟨es', h1, h2, h3.mono h⟩
  | tok c => exact k
  | el c => exact ⟨k.1, k.2.1, k.2.2.mono h⟩
  | win c e => obtain ⟨cur, h1, h2, h3, h4⟩ := k; exact ⟨cur, h1, h2, h3.mono h, h4⟩
  | dead => trivial

/-- An object's own and borrowed blocks are there. -/
theorem Hl.lt {i : Nat} {o : HObj} {p : Place} (k : Hl η w0 μ i o p w) {g : Nat} (hg : own o p g ∨ bor o p g) : g < w.heap.size := by
  cases o with
  | row c e => obtain ⟨cur, h1, _⟩ := k; rcases hg with hg | hg <;> first | exact hg.elim | (cases hg; exact block_lt h1)
  | map es c => obtain ⟨es', h1, _⟩ := k; rcases hg with hg | hg <;> first | exact hg.elim | (cases hg; exact block_lt h1)
  | tok c => rcases hg with hg | hg <;> first | exact hg.elim | (have := k.1; have := hg.1; have := hg.2; omega)
  | el c => rcases hg with hg | hg <;> first | exact hg.elim | (cases hg; exact k.1)
  | win c e => obtain ⟨cur, h1, _⟩ := k; rcases hg with hg | hg <;> first | exact hg.elim | (cases hg; exact block_lt h1)
  | ro c => rcases hg with hg | hg <;> exact hg.elim
  | lk c => rcases hg with hg | hg <;> exact hg.elim
  | rm es c => rcases hg with hg | hg <;> exact hg.elim
  | dead => rcases hg with hg | hg <;> exact hg.elim

/-- Where its blocks and the held ones are as they were, it says the same. -/
theorem Hl.still {β : Base} {i : Nat} {o : HObj} {p : Place} (hrd : ∀ g, w0.rd g → β.rd g) (hlk : ∀ g, w0.lk i g → β.lk i g) (hwr : ∀ g, bor o p g → w0.wr g → β.wr g) (hwin : ∀ g lo hi, own o p g → w0.win g lo hi → β.win g lo hi) (hold : ∀ g, η.old g → w0.rd g) (k : Hl η w0 μ i o p w) {w' : World} (hsz : w.heap.size ≤ w'.heap.size)
    (hb : ∀ g, own o p g ∨ bor o p g ∨ w0.rd g ∨ w0.lk i g → w'.heap[g]? = w.heap[g]?) : Hl η β μ i o p w' := by
  cases o with
  | row c e => obtain ⟨cur, h1, h2, h3, h4⟩ := k; exact ⟨cur, (hb _ (.inl rfl)).trans h1, h2, h3, h4⟩
  | ro c => exact ⟨hrd _ k.1, k.2.block (hb _ (.inr (.inr (.inl k.1))))⟩
  | lk c => exact ⟨hlk _ k.1, k.2.block (hb _ (.inr (.inr (.inr k.1))))⟩
  | map es c => obtain ⟨es', h1, h2⟩ := k; exact ⟨es', (hb _ (.inl rfl)).trans h1, h2⟩
  | rm es c => obtain ⟨es', h1, h2, h3⟩ := k; exact ⟨es', hlk _ h1, (hb _ (.inr (.inr (.inr h1)))).trans h2, h3⟩
  | tok c => exact ⟨Nat.le_trans k.1 hsz, η.stays _ _ _ _ _ _ k.2 fun g hg => hb g (hg.elim (fun h => .inr (.inr (.inl (hold g h)))) .inl)⟩
  | el c => exact ⟨Nat.lt_of_lt_of_le k.1 hsz, hwr _ rfl k.2.1, k.2.2.block (hb _ (.inr (.inl rfl)))⟩
  | win c e => obtain ⟨cur, h1, h2, h3, h4⟩ := k; exact ⟨cur, (hb _ (.inl rfl)).trans h1, h2, h3, hwin _ _ _ rfl h4⟩
  | dead => trivial

theorem R.row (h : R η w0 μ s w) (i : Nat) (c : List Value) (e : TypeId) (hi : s.h.get i = some (.row c e)) : ∃ p cur, μ i = some p ∧ w.heap[p.blk]? = some (.cells cur e (0, 0)) ∧ p.base + p.room = cur.size ∧ c.length ≤ p.room ∧
    w0.wr p.blk ∧ CsR η μ c cur p.base := by
  obtain ⟨p, h1, ⟨cur, h2, h3, h4, h5⟩, h6⟩ := h.obj i _ hi (by simp)
  exact ⟨p, cur, h1, h2, h3, h4, h6 _ rfl, h5⟩
theorem R.winc (h : R η w0 μ s w) (i : Nat) (c : List Value) (e : TypeId) (hi : s.h.get i = some (.win c e)) : ∃ p cur, μ i = some p ∧ w.heap[p.blk]? = some (.cells cur e (0, 0)) ∧ p.base + c.length ≤ cur.size ∧
    CsR η μ c cur p.base ∧ w0.win p.blk p.base (p.base + c.length) := by
  obtain ⟨p, h1, ⟨cur, h2, h3, h4, h5⟩, h6⟩ := h.obj i _ hi (by simp)
  exact ⟨p, cur, h1, h2, h3, h4, h5⟩
theorem R.inj (h : R η w0 μ s w) (i j : Nat) (c : List Value) (e : TypeId) (c' : List Value) (e' : TypeId) (p q : Place) (hi : s.h.get i = some (.row c e)) (hj : s.h.get j = some (.row c' e')) (hp : μ i = some p) (hq : μ j = some q) (hpq : p.blk = q.blk) : i = j :=
  Decidable.byContradiction fun hne => h.dis i j _ _ p q hne hi hj hp hq p.blk rfl hpq
theorem R.ro (h : R η w0 μ s w) (i : Nat) (c : List Value) (hi : s.h.get i = some (.ro c)) : ∃ p, μ i = some p ∧ w0.rd p.blk ∧ ∀ (j : Nat) (v : Value), c[j]? = some v → ∃ v', w.cell? ⟨p.blk, p.base + j, none⟩ = some v' ∧ VR η μ v v' := by
  obtain ⟨p, h1, h2, _⟩ := h.obj i _ hi (by simp)
  exact ⟨p, h1, h2.1, h2.2⟩
theorem R.lk (h : R η w0 μ s w) (i : Nat) (c : List Value) (hi : s.h.get i = some (.lk c)) : ∃ p, μ i = some p ∧ w0.lk i p.blk ∧ ∀ (j : Nat) (v : Value), c[j]? = some v → ∃ v', w.cell? ⟨p.blk, p.base + j, none⟩ = some v' ∧ VR η μ v v' := by
  obtain ⟨p, h1, h2, _⟩ := h.obj i _ hi (by simp)
  exact ⟨p, h1, h2.1, h2.2⟩
theorem R.elc (h : R η w0 μ s w) (i : Nat) (c : List Value) (hi : s.h.get i = some (.el c)) : ∃ p, μ i = some p ∧ p.blk < w.heap.size ∧ ∀ (j : Nat) (v : Value), c[j]? = some v → ∃ v', w.cell? ⟨p.blk, p.base + j, none⟩ = some v' ∧ VR η μ v v' := by
  obtain ⟨p, h1, h2, _⟩ := h.obj i _ hi (by simp)
  exact ⟨p, h1, h2.1, h2.2.2⟩
theorem R.map (h : R η w0 μ s w) (i : Nat) (es : List MapEntry) (k : Nat) (hi : s.h.get i = some (.map es k)) : ∃ p es', μ i = some p ∧ w.heap[p.blk]? = some (.map es' k) ∧ w0.wr p.blk ∧ EsR η μ es es'.toList := by
  obtain ⟨p, h1, ⟨es', h2, h3⟩, h4⟩ := h.obj i _ hi (by simp)
  exact ⟨p, es', h1, h2, h4 _ rfl, h3⟩
theorem R.rm (h : R η w0 μ s w) (i : Nat) (es : List MapEntry) (k : Nat) (hi : s.h.get i = some (.rm es k)) : ∃ p es', μ i = some p ∧ w0.lk i p.blk ∧ w.heap[p.blk]? = some (.map es' k) ∧ EsR η μ es es'.toList := by
  obtain ⟨p, h1, ⟨es', h2, h3, h4⟩, _⟩ := h.obj i _ hi (by simp)
  exact ⟨p, es', h1, h2, h3, h4⟩
theorem R.tok (h : R η w0 μ s w) (i k : Nat) (hi : s.h.get i = some (.tok k)) : ∃ p, μ i = some p ∧ p.blk + p.room ≤ w.heap.size ∧ (∀ g, p.blk ≤ g → g < p.blk + p.room → w0.wr g) ∧ η.psi k p.blk p.room w p.val := by
  obtain ⟨p, h1, h2, h3⟩ := h.obj i _ hi (by simp)
  exact ⟨p, h1, h2.1, fun g a b => h3 g ⟨a, b⟩, h2.2⟩

theorem held {β : Base} {w w' : World} (h : β.ok w) (h' : β.ok w') {i g : Nat} (hg : β.rd g ∨ β.lk i g) : w'.heap[g]? = w.heap[g]? :=
  hg.elim (β.rdok w w' g h h') (β.lkok w w' i g h h')

/-- Whoever owns a block may have it written; so it is not held. -/
theorem R.own_free (h : R η w0 μ s w) {i : Nat} {o : HObj} (hi : s.h.get i = some o) {p : Place} (hp : μ i = some p) {g : Nat} (hg : own o p g) : wrO w0 o g := by
  have hd : o ≠ .dead := fun e => by subst e; exact hg
  obtain ⟨q, h1, _, h3⟩ := h.obj i o hi hd
  rw [hp] at h1; cases h1
  exact h3 g hg

/-- New blocks beside (what was there is as it was). -/
theorem R.garbage {w' : World} (h : R η w0 μ s w) (hb : Below w.heap.size w w') : R η w0 μ s w' where
  below := w0.garbage _ _ h.below hb
  fresh := h.fresh
  obj := fun i o hi hd => by
    obtain ⟨p, h1, h2, h3⟩ := h.obj i o hi hd
    refine ⟨p, h1, h2.still (fun _ h => h) (fun _ h => h) (fun _ _ h => h) (fun _ _ _ _ h => h) h.eold hb.size fun g hg => hb.block g ?_, h3⟩
    rcases hg with hg | hg | hg | hg
    · exact h2.lt (.inl hg)
    · exact h2.lt (.inr hg)
    · exact w0.old _ _ h.below hg
    · exact w0.lold _ _ _ h.below hg
  dis := h.dis
  bdis := h.bdis
  mle := h.mle
  eold := h.eold
  gl := h.gl

theorem R.drew (h : R η w0 μ s w) : R η w0 μ s w.drew := h.garbage ((Below.refl _ _).drew)

/-- One more object, whose blocks are nobody's. -/
theorem R.add (h : R η w0 μ s w) {t : Tr HObj} {d : Nat} {o : HObj} (ht : Tr.set d s.h s.next o = some t) {p : Place} (hl : o ≠ .dead → Hl η w0 (μ.put s.next p) s.next o p w) (hwr : ∀ g, own o p g → wrO w0 o g)
    (hnew : ∀ i o' q, i ≠ s.next → s.h.get i = some o' → μ i = some q → ∀ g, own o' q g → (own o p g → False) ∧ (isRM o' → bor o p g → False)) (hb : ∀ i o' q, i ≠ s.next → s.h.get i = some o' → μ i = some q → isRM o → ∀ g, bor o' q g → ¬ own o p g) :
    R η w0 (μ.put s.next p) { s with h := t, next := s.next + 1 } w := by
  have hg := Tr.get_set d s.h t s.next o ht
  have hle : μ.le (μ.put s.next p) := Mu.put_le (h.fresh _ (Nat.le_refl _))
  have sub : ∀ i x, t.get i = some x → i ≠ s.next → s.h.get i = some x := fun i x hi hne => by rwa [hg, if_neg hne] at hi
  have at' : ∀ x, t.get s.next = some x → x = o := fun x hx => by rw [hg, if_pos rfl] at hx; exact (Option.some.inj hx).symm
  have old : ∀ i q, i ≠ s.next → (μ.put s.next p) i = some q → μ i = some q := fun i q hi hq => by rwa [Mu.put_other hi] at hq
  have new : ∀ q, (μ.put s.next p) s.next = some q → q = p := fun q hq => by rw [Mu.put_same] at hq; exact (Option.some.inj hq).symm
  refine ⟨h.below, fun i hi => ?_, fun i x hi hd => ?_, fun i j x y a b hij hi hj ha hb' g hga => ?_, fun i j x y a b hi hj hy ha hb' g hga => ?_, Mu.le_trans h.mle hle, h.eold, fun g hg' => let ⟨r, hr, hr2⟩ := h.gl g hg'; ⟨r, hle _ _ hr, hr2⟩⟩
  · have : s.next + 1 ≤ i := hi
    rw [Mu.put_other (by omega)]; exact h.fresh i (by omega)
  · by_cases hin : i = s.next
    · subst hin
      have := at' _ hi
      subst this
      exact ⟨p, Mu.put_same _ _ _, hl hd, hwr⟩
    · obtain ⟨q, h1, h2, h3⟩ := h.obj i x (sub _ _ hi hin) hd
      exact ⟨q, hle _ _ h1, h2.mono hle, h3⟩
  · by_cases hin : i = s.next
    · subst hin
      have := at' _ hi
      subst this
      have := new _ ha
      subst this
      have hjn : j ≠ s.next := Ne.symm hij
      exact fun hgb => (hnew j y b hjn (sub _ _ hj hjn) (old _ _ hjn hb') g hgb).1 hga
    · by_cases hjn : j = s.next
      · subst hjn
        have := at' _ hj
        subst this
        have := new _ hb'
        subst this
        exact (hnew i x a hin (sub _ _ hi hin) (old _ _ hin ha) g hga).1
      · exact h.dis i j x y a b hij (sub _ _ hi hin) (sub _ _ hj hjn) (old _ _ hin ha) (old _ _ hjn hb') g hga
  · by_cases hin : i = s.next
    · subst hin
      have := at' _ hi
      subst this
      have := new _ ha
      subst this
      by_cases hjn : j = s.next
      · subst hjn
        have := at' _ hj
        subst this
        rcases hy with ⟨_, _, e⟩ | ⟨_, _, e⟩ | ⟨_, _, e⟩ <;> (subst e; exact hga.elim)
      · exact fun hgb => (hnew j y b hjn (sub _ _ hj hjn) (old _ _ hjn hb') g hgb).2 hy hga
    · by_cases hjn : j = s.next
      · subst hjn
        have := at' _ hj
        subst this
        have := new _ hb'
        subst this
        exact hb i x a hin (sub _ _ hi hin) (old _ _ hin ha) hy g hga
      · exact h.bdis i j x y a b (sub _ _ hi hin) (sub _ _ hj hjn) hy (old _ _ hin ha) (old _ _ hjn hb') g hga

theorem R.own_lt (h : R η w0 μ s w) {i : Nat} {o : HObj} (hi : s.h.get i = some o) {p : Place} (hp : μ i = some p) {g : Nat} (hg : own o p g ∨ bor o p g) : g < w.heap.size := by
  have hd : o ≠ .dead := fun e => by subst e; exact hg.elim id id
  obtain ⟨q, h1, h2, _⟩ := h.obj i o hi hd
  rw [hp] at h1; cases h1
  exact h2.lt hg

/-- A new object. -/
theorem R.allocAny (h : R η w0 μ s w) {t : Tr HObj} {d : Nat} (o : HObj) (O : Obj) (room : Nat) (ht : Tr.set d s.h s.next o = some t)
    (hl : Hl η w0 (μ.put s.next ⟨w.heap.size, 0, room, undef⟩) s.next o ⟨w.heap.size, 0, room, undef⟩ (w.alloc O)) (ho : (∃ c e, o = .row c e) ∨ (∃ es k, o = .map es k)) :
    R η w0 (μ.put s.next ⟨w.heap.size, 0, room, undef⟩) { s with h := t, next := s.next + 1 } (w.alloc O) := by
  have hb : Below w.heap.size w (w.alloc O) := (Below.refl _ _).alloc (Nat.le_refl _) _
  have hown : ∀ g, own o ⟨w.heap.size, 0, room, undef⟩ g → g = w.heap.size := fun g hg => by
    rcases ho with ⟨c, e, rfl⟩ | ⟨es, k, rfl⟩ <;> exact hg
  have hnb : ∀ g, ¬ bor o ⟨w.heap.size, 0, room, undef⟩ g := fun g hg => by
    rcases ho with ⟨c, e, rfl⟩ | ⟨es, k, rfl⟩ <;> exact hg
  refine (h.garbage hb).add ht (fun _ => hl) (fun g hg => by have hw := w0.fresh w _ h.below (Nat.le_refl _); rw [hown g hg]; rcases ho with ⟨c, e, rfl⟩ | ⟨es, k, rfl⟩ <;> exact hw) (fun i o' q hin hi hq g hg => ⟨fun hg' => ?_, fun _ hg' => hnb g hg'⟩) (fun i o' q hin hi hq _ g hg hg' => ?_)
  · have := h.own_lt hi hq (.inl hg)
    have := hown g hg'
    omega
  · have := h.own_lt hi hq (.inr hg)
    have := hown g hg'
    omega

/-- A new row. -/
theorem R.alloc (h : R η w0 μ s w) {t : Tr HObj} {d : Nat} (c : List Value) (e : TypeId) (ht : Tr.set d s.h s.next (.row c e) = some t) (cur : Array Value) (hc : c.length ≤ cur.size)
    (hcs : CsR η μ c cur 0) : R η w0 (μ.put s.next ⟨w.heap.size, 0, cur.size, undef⟩) { s with h := t, next := s.next + 1 } (w.alloc (.cells cur e)) :=
  h.allocAny (.row c e) (.cells cur e) cur.size ht ⟨cur, heap_alloc_new w _, by simp, hc, hcs.mono (Mu.put_le (h.fresh _ (Nat.le_refl _)))⟩ (.inl ⟨_, _, rfl⟩)

/-- A new map. -/
theorem R.allocMap (h : R η w0 μ s w) {t : Tr HObj} {d : Nat} (ht : Tr.set d s.h s.next (.map [] 0) = some t) :
    R η w0 (μ.put s.next ⟨w.heap.size, 0, 0, undef⟩) { s with h := t, next := s.next + 1 } (w.alloc (.map #[] 0)) :=
  h.allocAny (.map [] 0) (.map #[] 0) 0 ht ⟨#[], heap_alloc_new w _, rfl, fun j e hj => by simp at hj⟩ (.inr ⟨_, _, rfl⟩)

/-- Some blocks are turned: those of one object; it says what it says then, and owns no more than it did. -/
theorem R.turn (h : R η w0 μ s w) {t : Tr HObj} {d i : Nat} {o o' : HObj} (hi : s.h.get i = some o) (ht : Tr.set d s.h i o' = some t) {p : Place} (hp : μ i = some p) {w' : World} (hw : w0.ok w') (hsz : w.heap.size ≤ w'.heap.size)
    (hsub : ∀ g, own o' p g → own o p g) (hnb : ∀ g, ¬ bor o' p g) (hrm : isRM o' → isRM o) (hwo : ∀ g, own o' p g → wrO w0 o' g) (hl : o' ≠ .dead → Hl η w0 μ i o' p w') (hoth : ∀ g, ¬ own o p g → g < w.heap.size → w'.heap[g]? = w.heap[g]?)
    (hel : isRM o ∨ ∀ j c q, j ≠ i → s.h.get j = some (.el c) → μ j = some q → ¬ own o p q.blk) : R η w0 μ { s with h := t } w' := by
  have hg := Tr.get_set d s.h t i o' ht
  have sub : ∀ j x, t.get j = some x → j ≠ i → s.h.get j = some x := fun j x hj hne => by rwa [hg, if_neg hne] at hj
  have at' : ∀ x, t.get i = some x → x = o' := fun x hx => by rw [hg, if_pos rfl] at hx; exact (Option.some.inj hx).symm
  refine ⟨hw, h.fresh, fun j x hj hd => ?_, fun j k x y a b hjk hj hk ha hb g hga => ?_, fun j k x y a b hj hk hy ha hb g hga => ?_, h.mle, h.eold, h.gl⟩
  · by_cases hji : j = i
    · subst hji
      have := at' _ hj
      subst this
      exact ⟨p, hp, hl hd, hwo⟩
    · have hj' := sub _ _ hj hji
      obtain ⟨q, h1, h2, h3⟩ := h.obj j x hj' hd
      refine ⟨q, h1, h2.still (fun _ h => h) (fun _ h => h) (fun _ _ h => h) (fun _ _ _ _ h => h) h.eold hsz fun g hg' => ?_, h3⟩
      rcases hg' with hg' | hg' | hg'
      · exact hoth g (h.dis j i x o q p hji hj' hi h1 hp g hg') (h2.lt (.inl hg'))
      · refine hoth g ?_ (h2.lt (.inr hg'))
        rcases hel with hel | hel
        · exact h.bdis j i x o q p hj' hi hel h1 hp g hg'
        · cases x with
          | el c => cases hg'; exact hel j c q hji hj' h1
          | _ => exact hg'.elim
      · exact held h.below hw hg'
  · by_cases hji : j = i
    · subst hji
      have := at' _ hj
      subst this
      rw [hp] at ha; cases ha
      exact h.dis j k o y p b hjk hi (sub _ _ hk (Ne.symm hjk)) hp hb g (hsub g hga)
    · by_cases hki : k = i
      · subst hki
        have := at' _ hk
        subst this
        rw [hp] at hb; cases hb
        exact fun hgb => h.dis j k x o a p hjk (sub _ _ hj hji) hi ha hp g hga (hsub g hgb)
      · exact h.dis j k x y a b hjk (sub _ _ hj hji) (sub _ _ hk hki) ha hb g hga
  · by_cases hji : j = i
    · subst hji
      have := at' _ hj
      subst this
      rw [hp] at ha; cases ha
      exact (hnb g hga).elim
    · by_cases hki : k = i
      · subst hki
        have := at' _ hk
        subst this
        rw [hp] at hb; cases hb
        exact fun hgb => h.bdis j k x o a p (sub _ _ hj hji) hi (hrm hy) ha hp g hga (hsub g hgb)
      · exact h.bdis j k x y a b (sub _ _ hj hji) (sub _ _ hk hki) hy ha hb g hga

/-- An object is written. -/
theorem R.updAny (h : R η w0 μ s w) {t : Tr HObj} {d i : Nat} {o o' : HObj} (hi : s.h.get i = some o) (ht : Tr.set d s.h i o' = some t) {p : Place} {O O' : Obj} (hp : μ i = some p)
    (hcur : w.heap[p.blk]? = some O)
    (hk : (∃ c c' e cur cur', o = .row c e ∧ o' = .row c' e ∧ O = .cells cur e (0, 0) ∧ O' = .cells cur' e (0, 0) ∧ cur'.size = cur.size ∧ c'.length ≤ p.room ∧ CsR η μ c' cur' p.base) ∨
      (∃ es k es' k' es2 es2', o = .map es k ∧ o' = .map es' k' ∧ O = .map es2 k ∧ O' = .map es2' k' ∧ EsR η μ es' es2'.toList))
    {w' : World} (hw : w0.ok w') (hsz : w.heap.size ≤ w'.heap.size) (hblk : w'.heap[p.blk]? = some O') (hoth : ∀ g, g ≠ p.blk → w'.heap[g]? = w.heap[g]?) :
    R η w0 μ { s with h := t } w' := by
  rcases hk with ⟨c, c', e, cur, cur', rfl, rfl, rfl, rfl, e5, e6, e7⟩ | ⟨es, k, es', k', es2, es2', rfl, rfl, rfl, rfl, e5⟩
  · refine h.turn hi ht hp hw hsz (fun g hg => hg) (fun g hg => hg) (fun _ => .inl ⟨_, _, rfl⟩) (fun g hg => h.own_free hi hp hg) (fun _ => ⟨cur', hblk, ?_, e6, e7⟩) (fun g hg _ => hoth g hg) (.inl (.inl ⟨_, _, rfl⟩))
    obtain ⟨q, cur1, h1, h2, h3, _⟩ := h.row i c e hi
    rw [hp] at h1; cases h1
    rw [hcur] at h2; cases h2
    rw [e5]; exact h3
  · exact h.turn hi ht hp hw hsz (fun g hg => hg) (fun g hg => hg) (fun _ => .inr (.inl ⟨_, _, rfl⟩)) (fun g hg => h.own_free hi hp hg) (fun _ => ⟨es2', hblk, e5⟩) (fun g hg _ => hoth g hg) (.inl (.inr (.inl ⟨_, _, rfl⟩)))

/-- A row is written (its block's cells are now cur'), and reads as c'. -/
theorem R.write (h : R η w0 μ s w) {t : Tr HObj} {d : Nat} {i : Nat} {c c' : List Value} {e : TypeId} (hi : s.h.get i = some (.row c e)) (ht : Tr.set d s.h i (.row c' e) = some t)
    {p : Place} {cur cur' : Array Value} (hp : μ i = some p) (hcur : w.heap[p.blk]? = some (.cells cur e (0, 0))) (hsz : cur'.size = cur.size) (hl : c'.length ≤ p.room) (hcs : CsR η μ c' cur' p.base)
    {w' : World} (hw : w0.ok w') (hhs : w.heap.size ≤ w'.heap.size) (hblk : w'.heap[p.blk]? = some (.cells cur' e (0, 0))) (hoth : ∀ g, g ≠ p.blk → w'.heap[g]? = w.heap[g]?) :
    R η w0 μ { s with h := t } w' :=
  h.updAny hi ht hp hcur (.inl ⟨c, c', e, cur, cur', rfl, rfl, rfl, rfl, hsz, hl, hcs⟩) hw hhs hblk hoth

/-- A row is given up, and a new one begins inside its block. -/
theorem R.move (h : R η w0 μ s w) {t u : Tr HObj} {d d' : Nat} {i : Nat} {c c' : List Value} {e : TypeId} (hi : s.h.get i = some (.row c e)) (hin : i ≠ s.next)
    (ht : Tr.set d s.h i .dead = some t) (hu : Tr.set d' t s.next (.row c' e) = some u)
    {p : Place} {cur cur' : Array Value} (hp : μ i = some p) (hcur : w.heap[p.blk]? = some (.cells cur e (0, 0))) (hsz : cur'.size = cur.size) {o : Nat} (ho : o ≤ p.room) (hl : c'.length ≤ p.room - o) (hcs : CsR η μ c' cur' (p.base + o))
    {w' : World} (hw : w0.ok w') (hhs : w.heap.size ≤ w'.heap.size) (hblk : w'.heap[p.blk]? = some (.cells cur' e (0, 0))) (hoth : ∀ g, g ≠ p.blk → w'.heap[g]? = w.heap[g]?) :
    R η w0 (μ.put s.next ⟨p.blk, p.base + o, p.room - o, undef⟩) { s with h := u, next := s.next + 1 } w' := by
  have hg1 := Tr.get_set d s.h t i .dead ht
  have hle : μ.le (μ.put s.next ⟨p.blk, p.base + o, p.room - o, undef⟩) := Mu.put_le (h.fresh _ (Nat.le_refl _))
  have hT : R η w0 μ { s with h := t } w' := h.turn hi ht hp hw hhs (fun g hg => hg.elim) (fun g hg => hg) (fun h => by rcases h with ⟨_, _, e⟩ | ⟨_, _, e⟩ | ⟨_, _, e⟩ <;> cases e) (fun g hg => hg.elim) (fun hd => absurd rfl hd) (fun g hg _ => hoth g hg) (.inl (.inl ⟨_, _, rfl⟩))
  obtain ⟨p', cur1, k1, k2, k3, k4, k5, k6⟩ := h.row i c e hi
  rw [hp] at k1; cases k1
  rw [hcur] at k2; cases k2
  have sub : ∀ j x, j ≠ s.next → t.get j = some x → j = i ∧ x = .dead ∨ j ≠ i ∧ s.h.get j = some x := fun j x hjn hj => by
    rw [hg1] at hj
    by_cases hji : j = i
    · rw [if_pos hji] at hj; cases hj; exact .inl ⟨hji, rfl⟩
    · rw [if_neg hji] at hj; exact .inr ⟨hji, hj⟩
  refine hT.add (p := ⟨p.blk, p.base + o, p.room - o, undef⟩) hu (fun _ => ⟨cur', hblk, by show p.base + o + (p.room - o) = _; rw [hsz]; omega, hl, hcs.mono hle⟩) (fun g hg => by cases hg; exact k5) (fun j x q hjn hj hq g hg => ⟨fun hg' => ?_, fun _ hg' => hg'⟩) (fun j x q hjn hj hq _ g hg hg' => ?_)
  · rcases sub j x hjn hj with ⟨_, rfl⟩ | ⟨hji, hj⟩
    · exact hg
    · exact h.dis j i x _ q p hji hj hi hq hp g hg hg'
  · rcases sub j x hjn hj with ⟨_, rfl⟩ | ⟨hji, hj⟩
    · exact hg
    · exact h.bdis j i x _ q p hj hi (.inl ⟨_, _, rfl⟩) hq hp g hg hg'

/-- The cells of a window are written. -/
theorem R.writeW (h : R η w0 μ s w) {t : Tr HObj} {d : Nat} {i : Nat} {c c' : List Value} {e : TypeId} (hi : s.h.get i = some (.win c e)) (ht : Tr.set d s.h i (.win c' e) = some t) (hlen : c'.length = c.length)
    {p : Place} {cur cur' : Array Value} (hp : μ i = some p) (hcur : w.heap[p.blk]? = some (.cells cur e (0, 0))) (hsz : cur'.size = cur.size) (hcs : CsR η μ c' cur' p.base)
    {w' : World} (hw : w0.ok w') (hhs : w.heap.size ≤ w'.heap.size) (hblk : w'.heap[p.blk]? = some (.cells cur' e (0, 0))) (hoth : ∀ g, g ≠ p.blk → w'.heap[g]? = w.heap[g]?) :
    R η w0 μ { s with h := t } w' := by
  obtain ⟨q, cur1, h1, h2, h3, h4, h5⟩ := h.winc i c e hi
  rw [hp] at h1; cases h1
  rw [hcur] at h2; cases h2
  exact h.turn hi ht hp hw hhs (fun g hg => hg) (fun g hg => hg) (fun _ => .inr (.inr ⟨_, _, rfl⟩)) (fun _ _ => trivial) (fun _ => ⟨cur', hblk, by rw [hlen, hsz]; exact h3, hcs, by rw [hlen]; exact h5⟩) (fun g hg _ => hoth g hg) (.inl (.inr (.inr ⟨_, _, rfl⟩)))

end

end Go.Hx
