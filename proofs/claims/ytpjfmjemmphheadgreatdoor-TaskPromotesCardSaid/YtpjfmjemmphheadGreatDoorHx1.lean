/- A reflective executor for the model: values, the abstract heap, and how they stand to the model's world. Program-independent; plain theorems. -/
import Derived.WalkKit
import Derived.Deep.Quiet
namespace Go.Hx
open Go Go.RowKit

/-! ### A finite map with numbers as keys -/
inductive Tr (α : Type) where
  | lf
  | nd (v : Option α) (l r : Tr α)

def Tr.get {α : Type} : Tr α → Nat → Option α
  | .lf, _ => none
  | .nd v l r, n => bif Nat.beq n 0 then v else bif Nat.beq ((n - 1) % 2) 0 then l.get ((n - 1) / 2) else r.get ((n - 1) / 2)

def Tr.set {α : Type} : Nat → Tr α → Nat → α → Option (Tr α)
  | 0, _, _, _ => none
  | d + 1, .lf, n, x => bif Nat.beq n 0 then some (.nd (some x) .lf .lf) else bif Nat.beq ((n - 1) % 2) 0
      then (Tr.set d .lf ((n - 1) / 2) x).map (fun t => .nd none t .lf) else (Tr.set d .lf ((n - 1) / 2) x).map (fun t => .nd none .lf t)
  | d + 1, .nd v l r, n, x => bif Nat.beq n 0 then some (.nd (some x) l r) else bif Nat.beq ((n - 1) % 2) 0
      then (Tr.set d l ((n - 1) / 2) x).map (fun t => .nd v t r) else (Tr.set d r ((n - 1) / 2) x).map (fun t => .nd v l t)

theorem beq_iff (a b : Nat) : Nat.beq a b = true ↔ a = b := Nat.beq_eq ▸ Iff.rfl

theorem Tr.get_lf {α : Type} (n : Nat) : (Tr.lf : Tr α).get n = none := rfl

theorem Tr.get_nd {α : Type} (v : Option α) (l r : Tr α) (n : Nat) :
    (Tr.nd v l r).get n = if n = 0 then v else if (n - 1) % 2 = 0 then l.get ((n - 1) / 2) else r.get ((n - 1) / 2) := by
  rw [Tr.get]
  by_cases h : n = 0
  · simp [h]
  · have : Nat.beq n 0 = false := by
      cases hb : Nat.beq n 0 with
      | false => rfl
      | true => exact absurd ((beq_iff _ _).1 hb) h
    rw [this, if_neg h]
    by_cases h2 : (n - 1) % 2 = 0
    · have h3 : Nat.beq ((n - 1) % 2) 0 = true := (beq_iff _ _).2 h2
      simp [h2]
    · have h3 : Nat.beq ((n - 1) % 2) 0 = false := by
        cases hb : Nat.beq ((n - 1) % 2) 0 with
        | false => rfl
        | true => exact absurd ((beq_iff _ _).1 hb) h2
      simp [h3, h2]

theorem Tr.get_set {α : Type} : ∀ (d : Nat) (t t' : Tr α) (n : Nat) (x : α), Tr.set d t n x = some t' → ∀ m, t'.get m = if m = n then some x else t.get m := by
  intro d
  induction d with
  | zero => intro t t' n x h; simp [Tr.set] at h
  | succ d ih =>
    intro t t' n x h m
    cases t with
    | lf =>
      rw [Tr.set] at h
      by_cases hn : n = 0
      · subst hn
        simp at h
        subst h
        rw [Tr.get_nd]
        by_cases hm : m = 0
        · simp [hm]
        · simp [hm, Tr.get_lf]
      · have hb : Nat.beq n 0 = false := by
          cases hb : Nat.beq n 0 with
          | false => rfl
          | true => exact absurd ((beq_iff _ _).1 hb) hn
        rw [hb] at h
        by_cases h2 : (n - 1) % 2 = 0
        · have h3 : Nat.beq ((n - 1) % 2) 0 = true := (beq_iff _ _).2 h2
          simp only [h3, cond_true, cond_false, Option.map_eq_some_iff] at h
          obtain ⟨u, hu, rfl⟩ := h
          rw [Tr.get_nd]
          by_cases hm : m = 0
          · have : ¬ (m = n) := by omega
            simp [hm, Tr.get_lf]; omega
          · rw [if_neg hm]
            by_cases h4 : (m - 1) % 2 = 0
            · rw [if_pos h4, ih _ _ _ _ hu]
              by_cases h5 : m = n
              · simp [h5]
              · have : ¬ ((m - 1) / 2 = (n - 1) / 2) := by omega
                simp [this, h5, Tr.get_lf]
            · rw [if_neg h4]
              have : ¬ (m = n) := by intro e; subst e; exact h4 h2
              simp [this, Tr.get_lf]
        · have h3 : Nat.beq ((n - 1) % 2) 0 = false := by
            cases hb : Nat.beq ((n - 1) % 2) 0 with
            | false => rfl
            | true => exact absurd ((beq_iff _ _).1 hb) h2
          simp only [h3, cond_false, Option.map_eq_some_iff] at h
          obtain ⟨u, hu, rfl⟩ := h
          rw [Tr.get_nd]
          by_cases hm : m = 0
          · have : ¬ (m = n) := by omega
            simp [hm, Tr.get_lf]; omega
          · rw [if_neg hm]
            by_cases h4 : (m - 1) % 2 = 0
            · rw [if_pos h4]
              have : ¬ (m = n) := by intro e; subst e; exact h2 h4
              simp [this, Tr.get_lf]
            · rw [if_neg h4, ih _ _ _ _ hu]
              by_cases h5 : m = n
              · simp [h5]
              · have : ¬ ((m - 1) / 2 = (n - 1) / 2) := by omega
                simp [this, h5, Tr.get_lf]
    | nd v l r =>
      rw [Tr.set] at h
      by_cases hn : n = 0
      · subst hn
        simp at h
        subst h
        rw [Tr.get_nd, Tr.get_nd]
        by_cases hm : m = 0
        · simp [hm]
        · simp [hm]
      · have hb : Nat.beq n 0 = false := by
          cases hb : Nat.beq n 0 with
          | false => rfl
          | true => exact absurd ((beq_iff _ _).1 hb) hn
        rw [hb] at h
        by_cases h2 : (n - 1) % 2 = 0
        · have h3 : Nat.beq ((n - 1) % 2) 0 = true := (beq_iff _ _).2 h2
          simp only [h3, cond_true, cond_false, Option.map_eq_some_iff] at h
          obtain ⟨u, hu, rfl⟩ := h
          rw [Tr.get_nd, Tr.get_nd]
          by_cases hm : m = 0
          · simp [hm]; omega
          · rw [if_neg hm, if_neg hm]
            by_cases h4 : (m - 1) % 2 = 0
            · rw [if_pos h4, if_pos h4, ih _ _ _ _ hu]
              by_cases h5 : m = n
              · simp [h5]
              · have : ¬ ((m - 1) / 2 = (n - 1) / 2) := by omega
                simp [this, h5]
            · rw [if_neg h4, if_neg h4]
              have : ¬ (m = n) := by intro e; subst e; exact h4 h2
              simp [this]
        · have h3 : Nat.beq ((n - 1) % 2) 0 = false := by
            cases hb : Nat.beq ((n - 1) % 2) 0 with
            | false => rfl
            | true => exact absurd ((beq_iff _ _).1 hb) h2
          simp only [h3, cond_false, Option.map_eq_some_iff] at h
          obtain ⟨u, hu, rfl⟩ := h
          rw [Tr.get_nd, Tr.get_nd]
          by_cases hm : m = 0
          · simp [hm]; omega
          · rw [if_neg hm, if_neg hm]
            by_cases h4 : (m - 1) % 2 = 0
            · rw [if_pos h4, if_pos h4]
              have : ¬ (m = n) := by intro e; subst e; exact h2 h4
              simp [this]
            · rw [if_neg h4, if_neg h4, ih _ _ _ _ hu]
              by_cases h5 : m = n
              · simp [h5]
              · have : ¬ ((m - 1) / 2 = (n - 1) / 2) := by omega
                simp [this, h5]

/-! ### Values: an abstract value and a value of the model -/
structure Place where
  blk : Nat
  base : Nat
  room : Nat
  val : Value

abbrev Mu := Nat → Option Place

/-- What the names stand for: integers and truth values; the places that are fixed beforehand; the blocks that stay as they are; what an unknown value with its blocks holds. -/
structure Env where
  i : Int → Int
  m : Mu
  old : Nat → Prop
  psi : Nat → Nat → Nat → World → Value → Prop
  stays : ∀ k b n w w' v, psi k b n w v → (∀ g, old g ∨ (b ≤ g ∧ g < b + n) → w'.heap[g]? = w.heap[g]?) → psi k b n w' v

/-- Names for integers alone. -/
def Env.ints (f : Int → Int) : Env := ⟨f, fun _ => none, fun _ => False, fun _ _ _ _ _ => False, fun _ _ _ _ _ _ h _ => h⟩

/-- From here on a capacity says: unknown; what is added to it is how many cells an element has. -/
def UNK : Nat := 9223372036854775808
/-- From here on an integer is a name for an integer that is not known. -/
def TOK : Int := 1208925819614629174706176
def dn (η : Env) (n : Int) : Int := if n < TOK then n else η.i n

mutual
inductive VR (η : Env) (μ : Mu) : Value → Value → Prop
  | bool (b : Bool) : VR η μ (.bool b) (.bool b)
  | int (k : IntKind) (n : Int) : VR η μ (.int k n) (.int k (dn η n))
  | str (s : ByteArray) : VR η μ (.string s) (.string s)
  | pnil : VR η μ (.pointer none) (.pointer none)
  | snil : VR η μ (.slice none 0 0) (.slice none 0 0)
  | mnil : VR η μ (.map none) (.map none)
  | nfun : VR η μ .nilFunc .nilFunc
  | nifc : VR η μ .nilIface .nilIface
  | ptr {i o : Nat} {p : Place} (h : μ i = some p) : VR η μ (.pointer (some ⟨i, o, none⟩)) (.pointer (some ⟨p.blk, p.base + o, none⟩))
  | sliceK {i o n c : Nat} {p : Place} (h : μ i = some p) (hc : c < UNK) : VR η μ (.slice (some ⟨i, o, none⟩) n c) (.slice (some ⟨p.blk, p.base + o, none⟩) n c)
  | sliceU {i o n z c' : Nat} {p : Place} (h : μ i = some p) (hn : n ≤ c') (hm : c' ≤ maxLen) (hr : o + c' * z ≤ p.room) :
      VR η μ (.slice (some ⟨i, o, none⟩) n (UNK + z)) (.slice (some ⟨p.blk, p.base + o, none⟩) n c')
  | sliceE {a a' : Addr} {z : Nat} : VR η μ (.slice (some a) 0 (UNK + z)) (.slice (some a') 0 0)
  | map {i : Nat} {p : Place} (h : μ i = some p) : VR η μ (.map (some i)) (.map (some p.blk))
  | btok (n : Nat) : VR η μ (.float .f64 n) (.bool (decide (η.i n = 1)))
  | vtok {i : Nat} {p : Place} (h : μ i = some p) (hv : p.val.oneCell' = true) : VR η μ (.chan (some i)) p.val
  | func {fn : Fn} {f f' c c' : List Value} (hf : VRs η μ f f') (hc : VRs η μ c c') : VR η μ (.func fn ⟨f⟩ ⟨c⟩) (.func fn ⟨f'⟩ ⟨c'⟩)
  | iface {t : TypeId} {v v' : Value} (h : VR η μ v v') : VR η μ (.iface t v) (.iface t v')
  | agg {l l' : List Value} (h : VRs η μ l l') : VR η μ (.agg ⟨l⟩) (.agg ⟨l'⟩)
  | tuple {l l' : List Value} (h : VRs η μ l l') : VR η μ (.tuple ⟨l⟩) (.tuple ⟨l'⟩)
inductive VRs (η : Env) (μ : Mu) : List Value → List Value → Prop
  | nil : VRs η μ [] []
  | cons {v v' : Value} {l l' : List Value} (h : VR η μ v v') (t : VRs η μ l l') : VRs η μ (v :: l) (v' :: l')
end

def Mu.le (μ ν : Mu) : Prop := ∀ i p, μ i = some p → ν i = some p
theorem Mu.le_refl (μ : Mu) : μ.le μ := fun _ _ h => h
theorem Mu.le_trans {a b c : Mu} (h : a.le b) (k : b.le c) : a.le c := fun i p hp => k i p (h i p hp)

mutual
theorem VR.mono {η : Env} {μ ν : Mu} (hl : μ.le ν) {v v' : Value} : VR η μ v v' → VR η ν v v'
  | .bool b => .bool b
  | .int k n => .int k n
  | .str s => .str s
  | .pnil => .pnil
  | .snil => .snil
  | .mnil => .mnil
  | .nfun => .nfun
  | .nifc => .nifc
  | .ptr h => .ptr (hl _ _ h)
  | .sliceK h hc => .sliceK (hl _ _ h) hc
  | .sliceU h hn hm hr => .sliceU (hl _ _ h) hn hm hr
  | .sliceE => .sliceE
  | .map h => .map (hl _ _ h)
  | .btok n => .btok n
  | .vtok h hv => .vtok (hl _ _ h) hv
  | .func hf hc => .func (VRs.mono hl hf) (VRs.mono hl hc)
  | .iface h => .iface (VR.mono hl h)
  | .agg h => .agg (VRs.mono hl h)
  | .tuple h => .tuple (VRs.mono hl h)
theorem VRs.mono {η : Env} {μ ν : Mu} (hl : μ.le ν) {l l' : List Value} : VRs η μ l l' → VRs η ν l l'
  | .nil => .nil
  | .cons h t => .cons (VR.mono hl h) (VRs.mono hl t)
end

section
variable {η : Env} {μ : Mu}
theorem VRs.length {l l' : List Value} (h : VRs η μ l l') : l.length = l'.length := by
  induction l generalizing l' with
  | nil => cases h; rfl
  | cons a l ih => cases h with | cons _ t => simp [ih t]
theorem VRs.get {l l' : List Value} (h : VRs η μ l l') : ∀ (j : Nat) (v : Value), l[j]? = some v → ∃ v', l'[j]? = some v' ∧ VR η μ v v' := by
  induction l generalizing l' with
  | nil => intro j v hj; simp at hj
  | cons a l ih =>
    cases h with
    | cons h t =>
      intro j v hj
      cases j with
      | zero => simp at hj; subst hj; exact ⟨_, rfl, h⟩
      | succ j => simpa using ih t j v (by simpa using hj)
theorem VRs.of_get {l l' : List Value} (hl : l.length = l'.length) (h : ∀ (j : Nat) (v v' : Value), l[j]? = some v → l'[j]? = some v' → VR η μ v v') : VRs η μ l l' := by
  induction l generalizing l' with
  | nil => cases l' with
    | nil => exact .nil
    | cons _ _ => simp at hl
  | cons a l ih => cases l' with
    | nil => simp at hl
    | cons b l' => exact .cons (h 0 a b rfl rfl) (ih (by simpa using hl) fun j v v' hv hv' => h (j + 1) v v' (by simpa using hv) (by simpa using hv'))
theorem VRs.append {a a' b b' : List Value} (h : VRs η μ a a') (k : VRs η μ b b') : VRs η μ (a ++ b) (a' ++ b') := by
  induction a generalizing a' with
  | nil => cases h; simpa using k
  | cons x a ih => cases h with | cons h t => exact .cons h (ih t)
theorem VRs.take {a a' : List Value} (h : VRs η μ a a') (n : Nat) : VRs η μ (a.take n) (a'.take n) := by
  induction n generalizing a a' with
  | zero => simp; exact .nil
  | succ n ih => cases h with
    | nil => simp; exact .nil
    | cons h t => simp; exact .cons h (ih t)
theorem VRs.drop {a a' : List Value} (h : VRs η μ a a') (n : Nat) : VRs η μ (a.drop n) (a'.drop n) := by
  induction n generalizing a a' with
  | zero => simpa using h
  | succ n ih => cases h with
    | nil => simp; exact .nil
    | cons h t => simpa using ih t
theorem VRs.set {a a' : List Value} (h : VRs η μ a a') (n : Nat) {v v' : Value} (hv : VR η μ v v') : VRs η μ (a.set n v) (a'.set n v') := by
  induction a generalizing a' n with
  | nil => cases h; exact .nil
  | cons x a ih => cases h with
    | cons h t => cases n with
      | zero => exact .cons hv t
      | succ n => exact .cons h (ih t n)
end

/-- No address in it, and no name of an unknown integer: it is itself in the model. -/
def flatN : Nat → Value → Bool
  | _, .bool _ => true
  | _, .int _ n => decide (n < TOK)
  | _, .string _ => true
  | _, .pointer a => a.isNone
  | _, .slice a n c => a.isNone && Nat.beq n 0 && Nat.beq c 0
  | _, .map r => r.isNone
  | _, .nilFunc => true
  | _, .nilIface => true
  | d + 1, .func _ f c => f.toList.all (flatN d) && c.toList.all (flatN d)
  | d + 1, .iface _ v => flatN d v
  | d + 1, .agg cs => cs.toList.all (flatN d)
  | d + 1, .tuple cs => cs.toList.all (flatN d)
  | _, _ => false

theorem dn_lt {η : Env} {n : Int} (h : n < TOK) : dn η n = n := if_pos h

theorem flat_eq {η : Env} {μ : Mu} : ∀ (d : Nat) (v v' : Value), flatN d v = true → VR η μ v v' → v = v' := by
  intro d
  induction d with
  | zero =>
    intro v v' hf h
    cases h <;> simp [flatN] at hf <;> first | rfl | (rw [dn_lt hf]) | skip
  | succ d ih =>
    have hs : ∀ (l l' : List Value), l.all (flatN d) = true → VRs η μ l l' → l = l' := by
      intro l
      induction l with
      | nil => intro l' _ h; cases h; rfl
      | cons a l ihl =>
        intro l' hf h
        simp only [List.all_cons, Bool.and_eq_true] at hf
        cases h with
        | cons h t => rw [ih _ _ hf.1 h, ihl _ hf.2 t]
    intro v v' hf h
    cases h with
    | bool b => rfl
    | int k n => simp [flatN] at hf; rw [dn_lt hf]
    | str s => rfl
    | pnil => rfl
    | snil => rfl
    | mnil => rfl
    | nfun => rfl
    | nifc => rfl
    | ptr h => simp [flatN] at hf
    | sliceK h hc => simp [flatN] at hf
    | sliceU h hn hm hr => simp [flatN] at hf
    | sliceE => simp [flatN] at hf
    | map h => simp [flatN] at hf
    | btok n => simp [flatN] at hf
    | vtok h hv => simp [flatN] at hf
    | func h1 h2 =>
      simp only [flatN, Bool.and_eq_true] at hf
      rw [hs _ _ hf.1 h1, hs _ _ hf.2 h2]
    | iface h => simp only [flatN] at hf; rw [ih _ _ hf h]
    | agg h => simp only [flatN] at hf; rw [hs _ _ hf h]
    | tuple h => simp only [flatN] at hf; rw [hs _ _ hf h]

theorem flat_self {η : Env} {μ : Mu} : ∀ (d : Nat) (v : Value), flatN d v = true → VR η μ v v := by
  intro d
  induction d with
  | zero =>
    intro v hf
    cases v with
    | bool b => exact .bool b
    | int k n => have := VR.int (η := η) (μ := μ) k n; rw [dn_lt (by simpa [flatN] using hf)] at this; exact this
    | string s => exact .str s
    | pointer a => cases a with
      | none => exact .pnil
      | some a => simp [flatN] at hf
    | slice a n c =>
      simp only [flatN, Bool.and_eq_true, beq_iff] at hf
      obtain ⟨⟨h1, rfl⟩, rfl⟩ := hf
      cases a with
      | none => exact .snil
      | some a => simp at h1
    | map r => cases r with
      | none => exact .mnil
      | some a => simp [flatN] at hf
    | nilFunc => exact .nfun
    | nilIface => exact .nifc
    | _ => simp [flatN] at hf
  | succ d ih =>
    have hs : ∀ (l : List Value), l.all (flatN d) = true → VRs η μ l l := by
      intro l
      induction l with
      | nil => intro _; exact .nil
      | cons a l ihl =>
        intro hf
        simp only [List.all_cons, Bool.and_eq_true] at hf
        exact .cons (ih _ hf.1) (ihl hf.2)
    intro v hf
    cases v with
    | bool b => exact .bool b
    | int k n => have := VR.int (η := η) (μ := μ) k n; rw [dn_lt (by simpa [flatN] using hf)] at this; exact this
    | string s => exact .str s
    | pointer a => cases a with
      | none => exact .pnil
      | some a => simp [flatN] at hf
    | slice a n c =>
      simp only [flatN, Bool.and_eq_true, beq_iff] at hf
      obtain ⟨⟨h1, rfl⟩, rfl⟩ := hf
      cases a with
      | none => exact .snil
      | some a => simp at h1
    | map r => cases r with
      | none => exact .mnil
      | some a => simp [flatN] at hf
    | nilFunc => exact .nfun
    | nilIface => exact .nifc
    | func fn f c =>
      obtain ⟨f⟩ := f
      obtain ⟨c⟩ := c
      simp only [flatN, Bool.and_eq_true] at hf
      exact .func (hs _ hf.1) (hs _ hf.2)
    | iface t v => simp only [flatN] at hf; exact .iface (ih _ hf)
    | agg cs => obtain ⟨cs⟩ := cs; simp only [flatN] at hf; exact .agg (hs _ hf)
    | tuple cs => obtain ⟨cs⟩ := cs; simp only [flatN] at hf; exact .tuple (hs _ hf)
    | _ => simp [flatN] at hf

end Go.Hx
