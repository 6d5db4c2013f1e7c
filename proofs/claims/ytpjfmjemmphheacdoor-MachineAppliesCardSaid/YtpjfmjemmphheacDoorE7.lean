/- MachineApplies: the executor: cuts. Conditions: none. -/
import Derived.Test.YtpjfmjemmphheacDoorE6
set_option linter.all false
set_option linter.unusedVariables false
set_option linter.unusedSimpArgs false
namespace Go.Hx
open Go Go.RowKit

/-! ### States and frames out of lists -/
def mkTr {α : Type} : List (Nat × α) → Tr α → Tr α
  | [], t => t
  | (i, x) :: l, t => match Tr.set 64 t i x with
    | some t' => mkTr l t'
    | none => .lf
def mkSt (objs : List (Nat × HObj)) (next ng : Nat) : St := ⟨mkTr objs .lf, next, ng, true, [], [], []⟩
def mkF (sl : List (Nat × Value)) (n : Nat) : HF := ⟨mkTr sl .lf, n, [], hvc⟩
/-- The same objects, with answers. -/
def St.ask (s : St) (pth : List Bool) (ora : List (List Value)) : St := { s with opn := true, pth := pth, ora := ora, pc := [] }
/-- The same objects, nothing being open. -/
def St.shut (s : St) : St := { s with opn := false, pth := [], ora := [], pc := [] }

theorem mkTr_get {α : Type} : ∀ (l : List (Nat × α)) (t : Tr α) (j : Nat) (x : α), (mkTr l t).get j = some x → (j, x) ∈ l ∨ t.get j = some x := by
  intro l
  induction l with
  | nil => intro t j x h; exact .inr h
  | cons e l ih =>
    obtain ⟨i, y⟩ := e
    intro t j x h
    simp only [mkTr] at h
    split at h
    · rename_i t' ht
      rcases ih t' j x h with h | h
      · exact .inl (List.mem_cons_of_mem _ h)
      · rw [Tr.get_set 64 t t' i y ht] at h
        by_cases hji : j = i
        · rw [if_pos hji] at h; cases h; subst hji; exact .inl (List.mem_cons_self ..)
        · rw [if_neg hji] at h; exact .inr h
    · cases h

/-! ### Names -/
inductive RT where
  | to (j : Nat)
  | ice (es : List Value)
def lookN {α : Type} : List (Nat × α) → Nat → Option α
  | [], _ => none
  | (i, x) :: l, n => bif Nat.beq i n then some x else lookN l n
theorem lookN_mem {α : Type} {x : α} {n : Nat} : ∀ {l : List (Nat × α)}, lookN l n = some x → (n, x) ∈ l
  | [], h => by cases h
  | (i, y) :: l, h => by
    simp only [lookN] at h
    cases hb : Nat.beq i n with
    | true => rw [hb] at h; cases h; rw [(beq_iff _ _).1 hb]; exact List.mem_cons_self ..
    | false => rw [hb] at h; exact List.mem_cons_of_mem _ (lookN_mem h)

def renL (r : Value → Option (Value × List Prop)) : List Value → Option (List Value × List Prop)
  | [] => some ([], [])
  | v :: l => match r v with
    | some (v', p) => match renL r l with
      | some (l', q) => some (v' :: l', p ++ q)
      | none => none
    | none => none
def renV (ρ : List (Nat × RT)) : Nat → Value → Option (Value × List Prop)
  | _, .bool b => some (.bool b, [])
  | _, .int k n => some (.int k n, [])
  | _, .string s => some (.string s, [])
  | _, .pointer none => some (.pointer none, [])
  | _, .slice none n c => match lookN ρ 1208925819614629174706176 with
    | some _ => bif Nat.beq n 0 && Nat.beq c 0 then some (frz [], []) else none
    | none => some (.slice none n c, [])
  | _, .map none => some (.map none, [])
  | _, .nilFunc => some (.nilFunc, [])
  | _, .nilIface => some (.nilIface, [])
  | _, .pointer (some ⟨i, o, none⟩) => match lookN ρ i with
    | some (.to j) => some (.pointer (some ⟨j, o, none⟩), [])
    | _ => none
  | _, .slice (some ⟨i, o, none⟩) n c => match lookN ρ i with
    | some (.to j) => some (.slice (some ⟨j, o, none⟩) n c, [])
    | some (.ice es) => bif Nat.beq o 0 then some (frz es, bif Nat.blt c UNK then [n = es.length, n ≤ c] else [n = es.length]) else none
    | none => none
  | _, .map (some i) => match lookN ρ i with
    | some (.to j) => some (.map (some j), [])
    | _ => none
  | d + 1, .func fn f c => match renL (renV ρ d) f.toList, renL (renV ρ d) c.toList with
    | some (f', p), some (c', q) => some (.func fn ⟨f'⟩ ⟨c'⟩, p ++ q)
    | _, _ => none
  | d + 1, .iface t v => bif Nat.blt t TYM then (renV ρ d v).map fun r => (.iface t r.1, r.2) else some (.iface t v, [])
  | d + 1, .agg cs => (renL (renV ρ d) cs.toList).map fun r => (.agg ⟨r.1⟩, r.2)
  | d + 1, .tuple cs => (renL (renV ρ d) cs.toList).map fun r => (.tuple ⟨r.1⟩, r.2)
  | _, _ => none

def allP (l : List Prop) : Prop := ∀ p ∈ l, p
theorem allP.nil : allP [] := fun _ h => by cases h
theorem allP.cons {p : Prop} {l : List Prop} (h : p) (t : allP l) : allP (p :: l) := fun q hq => by
  rcases List.mem_cons.1 hq with rfl | hq
  · exact h
  · exact t q hq
theorem allP_append {a b : List Prop} (h : allP (a ++ b)) : allP a ∧ allP b := ⟨fun p hp => h p (by simp [hp]), fun p hp => h p (by simp [hp])⟩

/-- How the names stand to places. -/
def RenOK (ρ : List (Nat × RT)) (μ ν : Mu) : Prop := ∀ i r, lookN ρ i = some r → match r with
  | .to j => ∀ p, μ i = some p → ν j = some p
  | .ice es => ∀ n c x, VR μ (.slice (some ⟨i, 0, none⟩) n c) x → n = es.length → (c < UNK → n ≤ c) → VR ν (frz es) x

section
variable {ρ : List (Nat × RT)} {μ ν : Mu}

theorem renL_sound {r : Value → Option (Value × List Prop)} (hr : ∀ v v2 ps x, r v = some (v2, ps) → allP ps → VR μ v x → VR ν v2 x) : ∀ (l l2 : List Value) (ps : List Prop) (xs : List Value), renL r l = some (l2, ps) → allP ps → VRs μ l xs → VRs ν l2 xs := by
  intro l
  induction l with
  | nil => intro l2 ps xs h _ hx; cases h; cases hx; exact .nil
  | cons v l ih =>
    intro l2 ps xs h hp hx
    simp only [renL] at h
    split at h
    · rename_i v' p hv
      split at h
      · rename_i l' q hl
        cases h
        obtain ⟨h1, h2⟩ := allP_append hp
        cases hx with
        | cons a b => exact .cons (hr _ _ _ _ hv h1 a) (ih _ _ _ hl h2 b)
      · cases h
    · cases h

theorem renV_sound (hρ : RenOK ρ μ ν) (hfz : ∀ b O, μ.fz b = some O → ν.fz b = some O) : ∀ (d : Nat) (v v2 : Value) (ps : List Prop) (x : Value), renV ρ d v = some (v2, ps) → allP ps → VR μ v x → VR ν v2 x := by
  have ptr : ∀ {d : Nat} {a : Addr} {v2 : Value} {ps : List Prop} {x : Value}, renV ρ d (.pointer (some a)) = some (v2, ps) → VR μ (.pointer (some a)) x → VR ν v2 x := by
    intro d a v2 ps x h hx
    cases hx with
    | @ptr i o _ hp =>
      have h' : (match lookN ρ i with
        | some (.to j) => some (.pointer (some ⟨j, o, none⟩), [])
        | _ => none) = some (v2, ps) := by
          cases d <;> exact h
      split at h'
      · rename_i j hj
        cases h'
        exact .ptr (hρ _ _ hj _ hp)
      · cases h'
  have map' : ∀ {d : Nat} {i : Nat} {v2 : Value} {ps : List Prop} {x : Value}, renV ρ d (.map (some i)) = some (v2, ps) → VR μ (.map (some i)) x → VR ν v2 x := by
    intro d i v2 ps x h hx
    cases hx with
    | map hp =>
      have h' : (match lookN ρ i with
        | some (.to j) => some (.map (some j), [])
        | _ => none) = some (v2, ps) := by
          cases d <;> exact h
      split at h'
      · rename_i j hj
        cases h'
        exact .map (hρ _ _ hj _ hp)
      · cases h'
  have nls : ∀ {d : Nat} {n c : Nat} {v2 : Value} {ps : List Prop} {x : Value}, renV ρ d (.slice none n c) = some (v2, ps) → VR μ (.slice none n c) x → VR ν v2 x := by
    intro d n c v2 ps x h hx
    have h' : (match lookN ρ 1208925819614629174706176 with
      | some _ => bif Nat.beq n 0 && Nat.beq c 0 then some (frz [], []) else none
      | none => some (.slice none n c, [])) = some (v2, ps) := by
        cases d <;> exact h
    split at h'
    · obtain ⟨_, h'⟩ := bif_some h'
      cases h'
      cases hx
      exact .frz .frz0
    · cases h'
      cases hx
      exact .snil
  have slc : ∀ {d : Nat} {a : Addr} {n c : Nat} {v2 : Value} {ps : List Prop} {x : Value}, renV ρ d (.slice (some a) n c) = some (v2, ps) → allP ps → VR μ (.slice (some a) n c) x → VR ν v2 x := by
    intro d a n c v2 ps x h hp hx
    obtain ⟨i, o, sp⟩ := a
    cases sp with
    | some sp => cases d <;> simp [renV] at h
    | none =>
      have h' : (match lookN ρ i with
        | some (.to j) => some (.slice (some ⟨j, o, none⟩) n c, [])
        | some (.ice es) => bif Nat.beq o 0 then some (frz es, bif Nat.blt c UNK then [n = es.length, n ≤ c] else [n = es.length]) else none
        | none => none) = some (v2, ps) := by
          cases d <;> exact h
      split at h'
      · rename_i j hj
        cases h'
        cases hx with
        | sliceK hq hc => exact .sliceK (hρ _ _ hj _ hq) hc
        | sliceU hq h1 h2 h3 => exact .sliceU (hρ _ _ hj _ hq) h1 h2 h3
        | sliceE => exact .sliceE
      · rename_i es hj
        obtain ⟨ho, h'⟩ := bif_some h'
        cases h'
        have := (beq_iff _ _).1 ho
        subst this
        refine hρ _ _ hj n c x hx ?_ fun hc => ?_
        · cases hb : Nat.blt c UNK <;> rw [hb] at hp <;> exact hp _ (by simp)
        · rw [show Nat.blt c UNK = true from Nat.ble_eq_true_of_le hc] at hp
          exact hp _ (by simp)
      · cases h'
  intro d
  induction d with
  | zero =>
    intro v v2 ps x h hp hx
    cases v with
    | bool b => cases h; cases hx; exact .bool _
    | int k n => cases h; cases hx; exact .int _ _
    | string s => cases h; cases hx; exact .str _
    | pointer a => cases a with
      | none => cases h; cases hx; exact .pnil
      | some a => exact ptr h hx
    | slice a n c => cases a with
      | none => exact nls h hx
      | some a => exact slc h hp hx
    | map r => cases r with
      | none => cases h; cases hx; exact .mnil
      | some a => exact map' h hx
    | nilFunc => cases h; cases hx; exact .nfun
    | nilIface => cases h; cases hx; exact .nifc
    | _ => simp [renV] at h
  | succ d ih =>
    intro v v2 ps x h hp hx
    cases v with
    | bool b => cases h; cases hx; exact .bool _
    | int k n => cases h; cases hx; exact .int _ _
    | string s => cases h; cases hx; exact .str _
    | pointer a => cases a with
      | none => cases h; cases hx; exact .pnil
      | some a => exact ptr h hx
    | slice a n c => cases a with
      | none => exact nls h hx
      | some a => exact slc h hp hx
    | map r => cases r with
      | none => cases h; cases hx; exact .mnil
      | some a => exact map' h hx
    | nilFunc => cases h; cases hx; exact .nfun
    | nilIface => cases h; cases hx; exact .nifc
    | func fn f c =>
      simp only [renV] at h
      split at h
      · rename_i f' p c' q hf hc
        cases h
        obtain ⟨h1, h2⟩ := allP_append hp
        cases hx with
        | func a b => exact .func (renL_sound ih _ _ _ _ hf h1 a) (renL_sound ih _ _ _ _ hc h2 b)
      · cases h
    | iface t v =>
      simp only [renV] at h
      cases hb : Nat.blt t TYM with
      | true =>
        rw [hb] at h
        simp only [cond_true, Option.map_eq_some_iff, Prod.mk.injEq] at h
        obtain ⟨⟨r1, r2⟩, h1, rfl, rfl⟩ := h
        have hb := blt_lt hb
        cases hx with
        | iface ht a => exact .iface ht (ih _ _ _ _ h1 hp a)
        | frz _ => exact absurd hb (by simp [TYM])
        | fptr _ _ _ => exact absurd hb (by simp [TYM])
        | szv => exact absurd hb (by simp [TYM])
      | false =>
        rw [hb] at h
        simp only [cond_false, Option.some.injEq, Prod.mk.injEq] at h
        obtain ⟨rfl, rfl⟩ := h
        cases hx with
        | iface ht a => exact absurd (Nat.ble_eq_true_of_le ht) (by rw [show Nat.ble (t + 1) TYM = false from hb]; simp)
        | frz a => exact .frz (a.mono hfz)
        | fptr a b c => exact .fptr (hfz _ _ a) b (c.mono hfz)
        | szv => exact .szv
    | agg cs =>
      simp only [renV, Option.map_eq_some_iff, Prod.mk.injEq] at h
      obtain ⟨⟨r1, r2⟩, h1, rfl, rfl⟩ := h
      cases hx with
      | agg a => exact .agg (renL_sound ih _ _ _ _ h1 hp a)
    | tuple cs =>
      simp only [renV, Option.map_eq_some_iff, Prod.mk.injEq] at h
      obtain ⟨⟨r1, r2⟩, h1, rfl, rfl⟩ := h
      cases hx with
      | tuple a => exact .tuple (renL_sound ih _ _ _ _ h1 hp a)
    | _ => simp [renV] at h
end

/-! ### Objects -/
def renEs (ρ : List (Nat × RT)) : List MapEntry → Option (List MapEntry × List Prop)
  | [] => some ([], [])
  | e :: l => match renV ρ 4 e.key, renV ρ 4 e.val with
    | some (k, p), some (v, q) => match renEs ρ l with
      | some (l', r) => some ({ e with key := k, val := v } :: l', p ++ q ++ r)
      | none => none
    | _, _ => none
/-- (op: its cells are not looked at one by one any more.) -/
def renO (ρ : List (Nat × RT)) (op : Bool) : HObj → Option (HObj × List Prop)
  | .row true c e => some (.row true c e, [])
  | .row false c e => bif op then (bif c.all (idf 0) then some (.row true c e, []) else none) else (renL (renV ρ 4) c).map fun r => (.row false r.1 e, r.2)
  | .ro c => (renL (renV ρ 4) c).map fun r => (.ro r.1, r.2)
  | .map es k => (renEs ρ es).map fun r => (.map r.1 k, r.2)
  | .omap es => some (.omap es, [])
  | .dmap es z => some (.dmap es z, [])
  | .kmap _ _ => some (.dead, [])
  | _ => none

section
variable {ρ : List (Nat × RT)} {μ ν : Mu} {w0 : Base} {w : World}

theorem csr_list {μ : Mu} {c : List Value} {cur : Array Value} {b : Nat} (h : CsR false μ c cur b) : VRs μ c ((cur.toList.drop b).take c.length) := by
  have := (csr_crs (op := false) (o := 0) (n := c.length) h (by omega)).2
  simpa [CRs] using this
theorem list_csr {op : Bool} {μ : Mu} {c : List Value} {cur : Array Value} {b n : Nat} (h : CRs op μ c ((cur.toList.drop b).take n)) : CsR op μ c cur b := fun j v hj => by
  obtain ⟨v', h1, h2⟩ := h.get j v hj
  refine ⟨v', ?_, h2⟩
  rcases Nat.lt_or_ge j n with hjn | hjn
  · rw [List.getElem?_take, if_pos hjn, List.getElem?_drop] at h1
    simpa using h1
  · rw [List.getElem?_take, if_neg (by omega)] at h1; cases h1

theorem renEs_sound (hρ : RenOK ρ μ ν) (hfz : ∀ b O, μ.fz b = some O → ν.fz b = some O) : ∀ (es es2 : List MapEntry) (ps : List Prop) (es' : List MapEntry), renEs ρ es = some (es2, ps) → allP ps → EsR μ es es' → EsR ν es2 es' := by
  intro es
  induction es with
  | nil => intro es2 ps es' h _ k; cases h; exact ⟨k.1, fun j e hj => by simp at hj⟩
  | cons e es ih =>
    intro es2 ps es' h hp k
    simp only [renEs] at h
    split at h
    · rename_i k1 p v1 q hk hv
      split at h
      · rename_i l' r hl
        cases h
        obtain ⟨h1, h3⟩ := allP_append hp
        obtain ⟨h1, h2⟩ := allP_append h1
        cases es' with
        | nil => have := k.1; simp at this
        | cons e' es' =>
          have k2 := ih l' r es' hl h3 k.tail
          obtain ⟨e2, m1, m2, m3, m4⟩ := k.2 0 e rfl
          simp at m1
          subst m1
          refine ⟨by have := k2.1; simp [this], fun j x hj => ?_⟩
          cases j with
          | zero =>
            simp at hj
            subst hj
            exact ⟨e', rfl, renV_sound hρ hfz _ _ _ _ _ hk h1 m2, renV_sound hρ hfz _ _ _ _ _ hv h2 m3, m4⟩
          | succ j => simpa using k2.2 j x (by simpa using hj)
      · cases h
    · cases h

theorem renO_sound (hρ : RenOK ρ μ ν) (hfz : ∀ b O, μ.fz b = some O → ν.fz b = some O) {op : Bool} {o o2 : HObj} {ps : List Prop} {i j : Nat} {p : Place} (h : renO ρ op o = some (o2, ps)) (hp : allP ps) (k : Hl w0 μ i o p w) :
    Hl w0 ν j o2 p w ∧ (∀ g, own o2 p g ↔ own o p g) ∧ o ≠ .dead := by
  cases o with
  | row op0 c e =>
    cases op0 with
    | true =>
      cases h
      obtain ⟨cur, h1, h2, h3, h4⟩ := k
      refine ⟨⟨cur, h1, h2, h3, fun j v hj => ?_⟩, fun g => Iff.rfl, by simp⟩
      obtain ⟨v', k1, k2⟩ := h4 j v hj
      exact ⟨v', k1, FR.mono hfz k2⟩
    | false =>
      obtain ⟨cur, h1, h2, h3, h4⟩ := k
      simp only [renO] at h
      cases op with
      | true =>
        simp only [cond_true] at h
        obtain ⟨ha, h⟩ := bif_some h
        cases h
        refine ⟨⟨cur, h1, h2, h3, list_csr (n := c.length) (FRs.mono hfz (idfs_frs ha (csr_list h4)))⟩, fun g => Iff.rfl, by simp⟩
      | false =>
        simp only [cond_false, Option.map_eq_some_iff, Prod.mk.injEq] at h
        obtain ⟨⟨r1, r2⟩, hr, rfl, rfl⟩ := h
        have := renL_sound (renV_sound hρ hfz 4) _ _ _ _ hr hp (csr_list h4)
        refine ⟨⟨cur, h1, h2, ?_, list_csr (op := false) (n := c.length) this⟩, fun g => Iff.rfl, by simp⟩
        have := this.length
        rw [this, List.length_take]
        omega
  | ro c =>
    obtain ⟨cur, e, fr, h1, h2⟩ := k
    simp only [renO, Option.map_eq_some_iff, Prod.mk.injEq] at h
    obtain ⟨⟨r1, r2⟩, hr, rfl, rfl⟩ := h
    exact ⟨⟨cur, e, fr, hfz _ _ h1, list_csr (op := false) (n := c.length) (renL_sound (renV_sound hρ hfz 4) _ _ _ _ hr hp (csr_list h2))⟩, fun g => Iff.rfl, by simp⟩
  | map es c =>
    obtain ⟨es', h1, h2⟩ := k
    simp only [renO, Option.map_eq_some_iff, Prod.mk.injEq] at h
    obtain ⟨⟨r1, r2⟩, hr, rfl, rfl⟩ := h
    exact ⟨⟨es', h1, renEs_sound hρ hfz _ _ _ _ hr hp h2⟩, fun g => Iff.rfl, by simp⟩
  | kmap n v =>
    cases h
    exact ⟨trivial, fun g => Iff.rfl, by simp⟩
  | omap es =>
    cases h
    obtain ⟨es', c, h1, h2⟩ := k
    exact ⟨⟨es', c, h1, h2.1, fun j e hj => let ⟨e', a, b, d⟩ := h2.2 j e hj; ⟨e', a, b, FR.mono hfz d⟩⟩, fun g => Iff.rfl, by simp⟩
  | dmap es z =>
    cases h
    obtain ⟨es', c, h1, h2, h3, h4⟩ := k
    refine ⟨⟨es', c, h1, h2, h3, h4.1, fun j e hj => ?_, h4.2.2⟩, fun g => Iff.rfl, by simp⟩
    obtain ⟨e', a, b, d⟩ := h4.2.1 j e hj
    refine ⟨e', a, b, ?_⟩
    rcases d with d | ⟨b, o, n, c, cur, e, g1, g2, g3, g4, g5, g6⟩
    · exact .inl d
    · exact .inr ⟨b, o, n, c, cur, e, g1, g2, g3, g4, g5.mono hfz, g6⟩
  | _ => cases h
end

/-! ### Cutting down -/
/-- objs: which objects stay (old number, new number, their cells not looked at one by one any more); ices: which rows are frozen (number, cells of an element, elements); slots: which slots are known; numbers below n0 keep their places. -/
structure Cut where
  objs : List (Nat × Nat × Bool)
  ices : List (Nat × Nat × List Value)
  slots : List Nat
  next : Nat
  n0 : Nat
  nz : Bool := false

def Cut.ρ (C : Cut) : List (Nat × RT) := (bif C.nz then [(1208925819614629174706176, .ice [])] else []) ++ (C.ices.map (fun x => (x.1, .ice x.2.2)) ++ C.objs.map (fun x => (x.1, .to x.2.1)))

def iceAll (s : St) : List (Nat × Nat × List Value) → Option (St × List Prop)
  | [] => some (s, [])
  | (i, z, es) :: l => match s.h.get i with
    | some (.row op c _) => bif asOK op true c then
        match Tr.set 64 s.h i .dead with
        | some t => match iceAll { s with h := t } l with
          | some (s', ps) => some (s', (flatV es = c ∧ (∀ v ∈ es, v.cells.size = z) ∧ 0 < z) :: ps)
          | none => none
        | none => none
      else none
    | _ => none

def cutObjs (ρ : List (Nat × RT)) (s : St) : List (Nat × Nat × Bool) → Option (List (Nat × HObj) × List Prop)
  | [] => some ([], [])
  | (i, j, op) :: l => match s.h.get i with
    | some o => match renO ρ op o with
      | some (o', p) => match cutObjs ρ s l with
        | some (r, q) => some ((j, o') :: r, p ++ q)
        | none => none
      | none => none
    | none => none
def cutSlots (ρ : List (Nat × RT)) (f : HF) : List Nat → Option (List (Nat × Value) × List Prop)
  | [] => some ([], [])
  | d :: l => bif Nat.blt d f.n && !isHv (f.get d) then match renV ρ 6 (f.get d) with
      | some (v, p) => match cutSlots ρ f l with
        | some (r, q) => some ((d, v) :: r, p ++ q)
        | none => none
      | none => none
    else none

def nodupB : List Nat → Bool
  | [] => true
  | x :: l => !(l.any (Nat.beq x)) && nodupB l
theorem nodupB_spec : ∀ {l : List Nat}, nodupB l = true → l.Nodup
  | [], _ => .nil
  | x :: l, h => by
    simp only [nodupB, Bool.and_eq_true, Bool.not_eq_true', List.any_eq_false] at h
    refine List.nodup_cons.2 ⟨fun hx => ?_, nodupB_spec h.2⟩
    exact h.1 x hx ((beq_iff _ _).2 rfl)

def Cut.okB (C : Cut) (s : St) : Bool :=
  nodupB (C.objs.map fun x => x.1) && nodupB (C.objs.map fun x => x.2.1) && C.objs.all (fun x => Nat.blt x.2.1 C.next && (Nat.beq x.1 x.2.1 || !(Nat.blt x.2.1 C.n0))) &&
  Nat.ble C.n0 C.next && Nat.ble s.ng C.n0

def cut (C : Cut) (s : St) (f : HF) : Option (List (Nat × HObj) × List (Nat × Value) × List Prop) :=
  bif C.okB s && f.ds.isEmpty then
    match iceAll s C.ices with
    | some (s1, p1) => match cutObjs C.ρ s1 C.objs, cutSlots C.ρ f C.slots with
      | some (os, p2), some (sl, p3) => some (os, sl, p1 ++ p2 ++ p3)
      | _, _ => none
    | none => none
  else none

/-- Numbers below n0 keep their places. -/
structure leN (n0 : Nat) (μ ν : Mu) : Prop where
  pl : ∀ i p, i < n0 → μ i = some p → ∃ q, ν i = some q ∧ p.sim q
  fz : ∀ b O, μ.fz b = some O → ν.fz b = some O
theorem leN.refl (n0 : Nat) (μ : Mu) : leN n0 μ μ := ⟨fun _ p _ h => ⟨p, h, p.sim_refl⟩, fun _ _ h => h⟩
theorem leN.trans {n0 : Nat} {a b c : Mu} (h : leN n0 a b) (k : leN n0 b c) : leN n0 a c :=
  ⟨fun i p hi hp => let ⟨q, h1, h2⟩ := h.pl i p hi hp; let ⟨r, k1, k2⟩ := k.pl i q hi h1; ⟨r, k1, h2.trans k2⟩, fun b O hb => k.fz b O (h.fz b O hb)⟩
theorem Mu.le.leN {a b : Mu} (h : a.le b) (n0 : Nat) : leN n0 a b := ⟨fun i p _ hp => h.pl i p hp, h.fz⟩
theorem leN.le {a b : Mu} {n0 : Nat} (h : leN n0 a b) (hn : ∀ i, n0 ≤ i → a i = none) : a.le b := by
  refine ⟨fun i p hp => ?_, h.fz⟩
  rcases Nat.lt_or_ge i n0 with hi | hi
  · exact h.pl i p hi hp
  · rw [hn i hi] at hp; cases hp
theorem leN.mono {a b : Mu} {n0 n1 : Nat} (h : leN n1 a b) (hn : n0 ≤ n1) : leN n0 a b := ⟨fun i p hi hp => h.pl i p (by omega) hp, h.fz⟩

section
variable {w0 : Base} {μ : Mu} {s : St} {w : World}

theorem iceAll_same : ∀ (l : List (Nat × Nat × List Value)) (s s1 : St) (ps : List Prop), iceAll s l = some (s1, ps) → s1.next = s.next ∧ s1.ng = s.ng ∧ ∀ j o, s1.h.get j = some o → o ≠ .dead → s.h.get j = some o := by
  intro l
  induction l with
  | nil => intro s s1 ps h; cases h; exact ⟨rfl, rfl, fun _ _ h _ => h⟩
  | cons x l ih =>
    obtain ⟨i, z, es⟩ := x
    intro s s1 ps h
    simp only [iceAll] at h
    split at h
    · obtain ⟨_, h⟩ := bif_some h
      split at h
      · rename_i t ht
        split at h
        · rename_i s' ps' hl
          cases h
          obtain ⟨h1, h2, h3⟩ := ih _ _ _ hl
          refine ⟨h1, h2, fun j o hj ho => ?_⟩
          have := h3 j o hj ho
          rw [show ({ s with h := t } : St).h.get j = t.get j from rfl, Tr.get_set 64 s.h t i _ ht] at this
          by_cases hji : j = i
          · rw [if_pos hji] at this; cases this; exact absurd rfl ho
          · rwa [if_neg hji] at this
        · cases h
      · cases h
    · cases h

theorem iceAll_sound : ∀ (l : List (Nat × Nat × List Value)) (s s1 : St) (ps : List Prop) (μ : Mu), R w0 μ s w → iceAll s l = some (s1, ps) → allP ps →
    ∃ ν, μ.le ν ∧ ν.pl = μ.pl ∧ R w0 ν s1 w ∧ ∀ x ∈ l, ∀ n c y, VR μ (.slice (some ⟨x.1, 0, none⟩) n c) y → n = x.2.2.length → (c < UNK → n ≤ c) → VR ν (frz x.2.2) y := by
  intro l
  induction l with
  | nil => intro s s1 ps μ h hr _; cases hr; exact ⟨μ, Mu.le_refl _, rfl, h, fun x hx => by cases hx⟩
  | cons x l ih =>
    obtain ⟨i, z, es⟩ := x
    intro s s1 ps μ h hr hp
    simp only [iceAll] at hr
    split at hr
    · rename_i op c e hg
      obtain ⟨has, hr⟩ := bif_some hr
      split at hr
      · rename_i t ht
        split at hr
        · rename_i s' ps' hl
          cases hr
          obtain ⟨q1, q2, q3⟩ := hp _ (List.mem_cons_self ..)
          obtain ⟨p, cur, r1, r2, r3, r4, r5, r6⟩ := h.row i op c e hg
          obtain ⟨k1, k2⟩ := h.freeze hg ht r1 r2
          obtain ⟨ν, m1, m2, m3, m4⟩ := ih _ _ _ _ k2 hl (fun p hp' => hp p (List.mem_cons_of_mem _ hp'))
          refine ⟨ν, Mu.le_trans k1 m1, m2, m3, fun x hx n cc y hy hn hcn => ?_⟩
          rcases List.mem_cons.1 hx with rfl | hx
          · dsimp only at hy hn hcn ⊢
            obtain ⟨r7, r8⟩ := csr_crs (o := 0) (n := c.length) r6 (by omega)
            have r9 : FRs μ.fz c ((cur.toList.drop (p.base + 0)).take c.length) := by
              have h9 := as_cr (op' := true) (l := (c.drop 0).take c.length) (by simpa using has) r8
              rw [List.drop_zero, List.take_length] at h9
              exact h9
            have hfl : c.length = es.length * z := by rw [← q1, flatV_len q2]
            have hz : ν.fz p.blk = some (.cells cur e (0, 0)) := m1.fz _ _ Mu.ice_same
            have mk : ∀ c' : Nat, n ≤ c' → VR ν (frz es) (.slice (some ⟨p.blk, p.base + 0, none⟩) n c') := fun c' hc' => by
              subst hn
              refine .frz (.frz hz q3 q2 hc' ?_ ?_)
              · rw [← hfl]
                have : ((cur.toList.drop (p.base + 0)).take c.length).length = c.length := r7
                simp only [List.length_take, List.length_drop, Array.length_toList] at this
                rcases Nat.eq_zero_or_pos c.length with h0 | h0
                · omega
                · omega
              · rw [q1, ← hfl]
                exact FRs.mono (Mu.le_trans k1 m1).fz r9
            cases hy with
            | sliceK hq hc =>
              rw [r1] at hq; cases hq
              exact mk _ (hcn hc)
            | sliceU hq h1 h2 h3 => rw [r1] at hq; cases hq; exact mk _ h1
            | sliceE =>
              have : es = [] := List.eq_nil_of_length_eq_zero hn.symm
              subst this
              exact .frz .frz0
          · have hy' : VR (μ.ice p.blk (.cells cur e (0, 0))) (.slice (some ⟨x.1, 0, none⟩) n cc) y := hy.mono k1
            exact m4 x hx n cc y hy' hn hcn
        · cases hr
      · cases hr
    · cases hr

theorem cutObjs_mem {ρ : List (Nat × RT)} {s : St} : ∀ {l : List (Nat × Nat × Bool)} {os : List (Nat × HObj)} {ps : List Prop}, cutObjs ρ s l = some (os, ps) → allP ps → ∀ j o', (j, o') ∈ os → ∃ i op o q, (i, j, op) ∈ l ∧ s.h.get i = some o ∧ renO ρ op o = some (o', q) ∧ allP q := by
  intro l
  induction l with
  | nil => intro os ps h _ j o' hm; cases h; cases hm
  | cons x l ih =>
    obtain ⟨i, j0, op⟩ := x
    intro os ps h hp j o' hm
    simp only [cutObjs] at h
    split at h
    · rename_i o ho
      split at h
      · rename_i o1 q1 hr
        split at h
        · rename_i r q2 hl
          cases h
          obtain ⟨h1, h2⟩ := allP_append hp
          rcases List.mem_cons.1 hm with hm | hm
          · cases hm; exact ⟨i, op, o, q1, List.mem_cons_self .., ho, hr, h1⟩
          · obtain ⟨i', op', o2, q, k1, k2⟩ := ih hl h2 j o' hm
            exact ⟨i', op', o2, q, List.mem_cons_of_mem _ k1, k2⟩
        · cases h
      · cases h
    · cases h
theorem cutSlots_mem {ρ : List (Nat × RT)} {f : HF} : ∀ {l : List Nat} {sl : List (Nat × Value)} {ps : List Prop}, cutSlots ρ f l = some (sl, ps) → allP ps → ∀ d v, (d, v) ∈ sl → ∃ q, d < f.n ∧ isHv (f.get d) = false ∧ renV ρ 6 (f.get d) = some (v, q) ∧ allP q := by
  intro l
  induction l with
  | nil => intro sl ps h _ d v hm; cases h; cases hm
  | cons x l ih =>
    intro sl ps h hp d v hm
    simp only [cutSlots] at h
    obtain ⟨hb, h⟩ := bif_some h
    simp only [Bool.and_eq_true, Bool.not_eq_true'] at hb
    split at h
    · rename_i v1 q1 hr
      split at h
      · rename_i r q2 hl
        cases h
        obtain ⟨h1, h2⟩ := allP_append hp
        rcases List.mem_cons.1 hm with hm | hm
        · cases hm; exact ⟨q1, blt_lt hb.1, hb.2, hr, h1⟩
        · exact ih hl h2 d v hm
      · cases h
    · cases h

theorem nodup_inj {α : Type} {f : α → Nat} : ∀ {l : List α}, (l.map f).Nodup → ∀ x ∈ l, ∀ y ∈ l, f x = f y → x = y
  | [], _, x, hx => by cases hx
  | a :: l, h, x, hx => by
    simp only [List.map_cons, List.nodup_cons] at h
    intro y hy he
    cases hx with
    | head => cases hy with
      | head => rfl
      | tail _ hy' => exact absurd (List.mem_map.2 ⟨y, hy', he.symm⟩) h.1
    | tail _ hx' => cases hy with
      | head => exact absurd (List.mem_map.2 ⟨x, hx', he⟩) h.1
      | tail _ hy' => exact nodup_inj h.2 x hx' y hy' he

/-- The places under the new numbers. -/
def Cut.mu (C : Cut) (pl : Nat → Option Place) (fz : Nat → Option Obj) : Mu :=
  ⟨fun j => if j < C.n0 then pl j else match C.objs.find? (fun x => x.2.1 == j) with
    | some x => pl x.1
    | none => none, fz⟩

theorem cut_ren {C : Cut} (hok : C.okB s = true) (h : R w0 μ s w) {s1 : St} {p1 : List Prop} (hi : iceAll s C.ices = some (s1, p1)) (hp : allP p1) :
    ∃ ν1 : Mu, μ.le ν1 ∧ ν1.pl = μ.pl ∧ R w0 ν1 s1 w ∧ RenOK C.ρ ν1 (C.mu μ.pl ν1.fz) ∧ (∀ i j op, (i, j, op) ∈ C.objs → (C.mu μ.pl ν1.fz) j = μ i) ∧ leN C.n0 μ (C.mu μ.pl ν1.fz) := by
  obtain ⟨ν1, m1, m2, m3, m4⟩ := iceAll_sound C.ices s s1 p1 μ h hi hp
  unfold Cut.okB at hok
  simp only [Bool.and_eq_true, List.all_eq_true] at hok
  obtain ⟨⟨⟨⟨o1, o2⟩, o3⟩, o4⟩, o5⟩ := hok
  have o2 := nodupB_spec o2
  have at' : ∀ i j op, (i, j, op) ∈ C.objs → (C.mu μ.pl ν1.fz) j = μ i := by
    intro i j op hm
    have hx := o3 _ hm
    simp only [Bool.or_eq_true, Bool.not_eq_true'] at hx
    show (if j < C.n0 then μ.pl j else _) = μ.pl i
    by_cases hj : j < C.n0
    · rw [if_pos hj]
      rcases hx.2 with hx | hx
      · rw [(beq_iff _ _).1 hx]
      · rw [show Nat.blt j C.n0 = true from Nat.ble_eq_true_of_le hj] at hx; cases hx
    · rw [if_neg hj]
      cases hf : C.objs.find? (fun x => x.2.1 == j) with
      | none =>
        have := List.find?_eq_none.1 hf _ hm
        simp at this
      | some x =>
        have hxm := List.mem_of_find?_eq_some hf
        have hxj := List.find?_some hf
        simp only [beq_iff_eq] at hxj
        have := nodup_inj o2 x hxm _ hm hxj
        rw [this]
  refine ⟨ν1, m1, m2, m3, fun i r hr => ?_, at', ⟨fun i p hin hp => ⟨p, ?_, p.sim_refl⟩, m1.fz⟩⟩
  · have hm := lookN_mem hr
    unfold Cut.ρ at hm
    rcases List.mem_append.1 hm with hm | hm
    · cases hnz : C.nz with
      | false => rw [hnz] at hm; cases hm
      | true =>
        rw [hnz] at hm
        simp only [cond_true, List.mem_singleton, Prod.mk.injEq] at hm
        obtain ⟨_, rfl⟩ := hm
        intro n c y hy hn _
        have hn : n = 0 := hn
        subst hn
        cases hy with
        | sliceK => exact .frz .frz0
        | sliceU => exact .frz .frz0
        | sliceE => exact .frz .frz0
    rcases List.mem_append.1 hm with hm | hm
    · obtain ⟨x, hx, he⟩ := List.mem_map.1 hm
      cases he
      intro n c y hy hn hc
      have hy' : VR μ (.slice (some ⟨x.1, 0, none⟩) n c) y := by
        cases hy with
        | sliceK hq hc => exact .sliceK (by rw [← m2]; exact hq) hc
        | sliceU hq a b d => exact .sliceU (by rw [← m2]; exact hq) a b d
        | sliceE => exact .sliceE
      have := m4 x hx n c y hy' hn hc
      cases this with
      | frz k => exact .frz k
      | iface ht _ => exact absurd ht (by simp [TYM])
    · obtain ⟨x, hx, he⟩ := List.mem_map.1 hm
      cases he
      intro p hp
      rw [at' x.1 x.2.1 x.2.2 hx]
      show μ.pl x.1 = some p
      rw [← m2]; exact hp
  · show (if i < C.n0 then μ.pl i else _) = some p
    rw [if_pos hin]
    exact hp

theorem cut_R {C : Cut} (hok : C.okB s = true) (h : R w0 μ s w) {s1 : St} {ν1 : Mu} (m2 : ν1.pl = μ.pl) (m3 : R w0 ν1 s1 w) (hren : RenOK C.ρ ν1 (C.mu μ.pl ν1.fz)) (hat : ∀ i j op, (i, j, op) ∈ C.objs → (C.mu μ.pl ν1.fz) j = μ i)
    {os : List (Nat × HObj)} {p2 : List Prop} (ho : cutObjs C.ρ s1 C.objs = some (os, p2)) (hp : allP p2) : R w0 (C.mu μ.pl ν1.fz) (mkSt os C.next s.ng) w := by
  unfold Cut.okB at hok
  simp only [Bool.and_eq_true, List.all_eq_true] at hok
  obtain ⟨⟨⟨⟨o1, o2⟩, o3⟩, o4⟩, o5⟩ := hok
  have o1 := nodupB_spec o1
  have o2 := nodupB_spec o2
  have o4 := ble_le o4
  have o5 := ble_le o5
  have key : ∀ j o', (mkSt os C.next s.ng).h.get j = some o' → ∃ i op o p, (i, j, op) ∈ C.objs ∧ s1.h.get i = some o ∧ o ≠ .dead ∧ μ i = some p ∧ (C.mu μ.pl ν1.fz) j = some p ∧ Hl w0 (C.mu μ.pl ν1.fz) j o' p w ∧ (∀ g, own o' p g ↔ own o p g) := by
    intro j o' hj
    have hj' : (j, o') ∈ os := by
      rcases mkTr_get os .lf j o' hj with h | h
      · exact h
      · rw [Tr.get_lf] at h; cases h
    obtain ⟨i, op, o, q, k1, k2, k3, k4⟩ := cutObjs_mem ho hp j o' hj'
    have hd : o ≠ .dead := by intro e; subst e; cases k3
    obtain ⟨p, r1, r2, r3⟩ := m3.obj i o k2 hd
    obtain ⟨n1, n2, _⟩ := renO_sound (j := j) hren (fun _ _ h => h) k3 k4 r2
    have hμ : μ i = some p := by show μ.pl i = some p; rw [← m2]; exact r1
    exact ⟨i, op, o, p, k1, k2, hd, hμ, (hat i j op k1).trans hμ, n1, n2⟩
  refine ⟨h.below, fun j hj => ?_, fun j o' hj _ => ?_, fun j k x y a b hjk hj hk ha hb g hga hgb => ?_, m3.fz, fun b O j x a hb hj ha hga => ?_, m3.fzo, fun g hg => ?_⟩
  · have hj : C.next ≤ j := hj
    show (if j < C.n0 then μ.pl j else _) = none
    rw [if_neg (by omega)]
    cases hf : C.objs.find? (fun x => x.2.1 == j) with
    | none => rfl
    | some x =>
      have hxm := List.mem_of_find?_eq_some hf
      have hxj := List.find?_some hf
      simp only [beq_iff_eq] at hxj
      have := blt_lt (o3 x hxm).1
      omega
  · obtain ⟨i, op, o, p, k1, k2, k3, k4, k5, k6, k7⟩ := key j o' hj
    obtain ⟨p', r1, r2, r3⟩ := m3.obj i o k2 k3
    have : ν1.pl i = some p := by rw [m2]; exact k4
    rw [this] at r1; cases r1
    exact ⟨p, k5, k6, fun g hg => r3 g ((k7 g).1 hg)⟩
  · obtain ⟨i1, op1, oa, p1, a1, a2, a3, a4, a5, a6, a7⟩ := key j x hj
    obtain ⟨i2, op2, ob, p2, b1, b2, b3, b4, b5, b6, b7⟩ := key k y hk
    rw [a5] at ha; cases ha
    rw [b5] at hb; cases hb
    have hne : i1 ≠ i2 := fun e => by
      subst e
      have := nodup_inj o1 _ a1 _ b1 rfl
      cases this
      exact hjk rfl
    have c1 : ν1.pl i1 = some a := by rw [m2]; exact a4
    have c2 : ν1.pl i2 = some b := by rw [m2]; exact b4
    exact m3.dis i1 i2 oa ob a b hne a2 b2 c1 c2 g ((a7 g).1 hga) ((b7 g).1 hgb)
  · obtain ⟨i1, op1, oa, p1, a1, a2, a3, a4, a5, a6, a7⟩ := key j x hj
    rw [a5] at ha; cases ha
    have c1 : ν1.pl i1 = some a := by rw [m2]; exact a4
    exact m3.fzd b O i1 oa a hb a2 c1 ((a7 b).1 hga)
  · have hg : g < s.ng := hg
    obtain ⟨p, q1, q2⟩ := h.gl g hg
    refine ⟨p, ?_, q2⟩
    show (if g < C.n0 then μ.pl g else _) = some p
    rw [if_pos (by omega)]
    exact q1

theorem cut_sound {C : Cut} {f : HF} {a : Act} {os : List (Nat × HObj)} {sl : List (Nat × Value)} {ps : List Prop} (h : R w0 μ s w) (ha : AR μ f a) (hc : cut C s f = some (os, sl, ps)) (hp : allP ps) :
    ∃ ν, leN C.n0 μ ν ∧ R w0 ν (mkSt os C.next s.ng) w ∧ AR ν (mkF sl f.n) a := by
  unfold cut at hc
  obtain ⟨hb, hc⟩ := bif_some hc
  simp only [Bool.and_eq_true] at hb
  split at hc
  · rename_i s1 p1 hi
    split at hc
    · rename_i os' p2 sl' p3 ho hs
      cases hc
      obtain ⟨h1, h3⟩ := allP_append hp
      obtain ⟨h1, h2⟩ := allP_append h1
      obtain ⟨ν1, m1, m2, m3, m4, m5, m6⟩ := cut_ren hb.1 h hi h1
      refine ⟨_, m6, cut_R hb.1 h m2 m3 m4 m5 ho h2, ha.size, fun d hd hv => ?_, ?_⟩
      · have hg : ∃ v, (mkF sl f.n).get d = v := ⟨_, rfl⟩
        unfold HF.get at hv ⊢
        cases hgd : (mkF sl f.n).t.get d with
        | none => rw [hgd] at hv; cases hv
        | some v =>
          simp only [Option.getD_some]
          have hm : (d, v) ∈ sl := by
            rcases mkTr_get sl .lf d v hgd with h | h
            · exact h
            · rw [Tr.get_lf] at h; cases h
          obtain ⟨q, k1, k2, k3, k4⟩ := cutSlots_mem hs h3 d v hm
          exact renV_sound m4 (fun _ _ h => h) _ _ _ _ _ k3 k4 ((ha.vals d k1 k2).mono m1)
      · have he : f.ds = [] := by simpa using hb.2
        have := ha.ds
        rw [he] at this
        generalize a.defers = l at this ⊢
        cases this
        exact .nil
    · cases hc
  · cases hc
end
end Go.Hx
