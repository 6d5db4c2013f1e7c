/- Regions that draw their order: a plan, and that every order comes to what the plan comes to. -/
import Derived.Test.YtpjfmjemmphheadGreatDoorHx10
namespace Go.Hx
open Go Go.RowKit

inductive PK where
  | pure
  | alloc
  | act

def opKind : Op → PK
  | .move _ => .pure
  | .assign _ => .pure
  | .pick _ _ _ => .pure
  | .nilCheck _ => .pure
  | .load _ _ => .pure
  | .lookup _ _ _ _ => .pure
  | .binOp _ _ _ _ _ => .pure
  | .unOp _ _ _ => .pure
  | .convert _ _ _ => .pure
  | .fieldAddr _ _ _ => .pure
  | .field _ _ _ => .pure
  | .indexAddr _ _ _ => .pure
  | .index _ _ _ => .pure
  | .extract _ _ => .pure
  | .makeInterface _ _ => .pure
  | .call c => match c.callee with
    | .builtin .len => .pure
    | _ => .act
  | .alloc _ => .alloc
  | .makeMap _ none => .alloc
  | _ => .act

def isK (ops : Array Oper) (i : Nat) (k : PK → Bool) : Bool :=
  match ops[i]? with
  | some o => k (opKind o.op)
  | none => false

def stOf (ops : Array Oper) (i : Nat) : Bool := isK ops i fun | .act => true | _ => false
def pureOf (ops : Array Oper) (i : Nat) : Bool := isK ops i fun | .pure => true | _ => false
def allocOf (ops : Array Oper) (i : Nat) : Bool := isK ops i fun | .alloc => true | _ => false

inductive PS where
  | take (i : Nat)
  | st (c : Nat)
  | commit (k : Nat)

def plan (ops : Array Oper) : Nat → Array Bool → List PS
  | 0, _ => []
  | n + 1, L =>
    match (Region.ready .any ops L).find? (fun i => pureOf ops i && Region.free .any ops L i) with
    | some i => .take i :: plan ops n (L.setIfInBounds i true)
    | none =>
      match (Region.ready .any ops L).filter (allocOf ops), (Region.ready .any ops L).filter (fun i => !allocOf ops i) with
      | [], [c] => .st c :: plan ops n (L.setIfInBounds c true)
      | [_], [c] => .st c :: plan ops n (L.setIfInBounds c true)
      | [a], [] => .commit a :: plan ops n (L.setIfInBounds a true)
      | _, _ => []

def firstCommit : List PS → Option Nat
  | [] => none
  | .commit k :: _ => some k
  | _ :: l => firstCommit l

def oneOf (c : Nat) (ka : Option Nat) (j : Nat) : Bool := Nat.beq j c || (match ka with | some k => Nat.beq j k | none => false)

def okTake (ops : Array Oper) (ka : Option Nat) (L : Array Bool) (i : Nat) : Bool :=
  (Region.ready .any ops L).contains i && Region.free .any ops L i && !stOf ops i && ((List.range ops.size).all fun c => !(stOf ops c && L.getD c false && Region.waitsFor .any ops c i)) &&
  (match ka with | some k => !Nat.beq k i && !Region.waitsFor .any ops k i | none => true)

def okSt (ops : Array Oper) (ka : Option Nat) (L : Array Bool) (c : Nat) : Bool :=
  stOf ops c && (Region.ready .any ops L).contains c && (Region.ready .any ops L).all (oneOf c ka) &&
  (match ka with
   | some k => !Nat.beq k c && (Region.ready .any ops (L.setIfInBounds k true)).all (oneOf c none) && (match ops[c]?, ops[k]? with | some oc, some ok => oc.apart ops ok | _, _ => false)
   | none => true)

def heldB (s : St) (z : Nat) : Bool :=
  match s.h.get z with
  | some (.row _ _) => true
  | some (.ro _) => true
  | some (.lk _) => true
  | some (.map _ _) => true
  | some (.rm _ _) => true
  | some (.win _ _) => true
  | _ => false

def hphase (P : Program) (fx : Facts) (call : HCall) (ops : Array Oper) (ka : Option Nat) : List PS → Array Bool → List (Nat × Nat) → St → HF → Option (List PS × Array Bool × List (Nat × Nat) × St × HF)
  | .take i :: r, L, pend, s, f => match ops[i]? with
    | none => none
    | some o => bif okTake ops ka L i then
        match hWanted f ops.toList o with
        | none => none
        | some false => match f.put o.dst undef with
          | some f' => hphase P fx call ops ka r (L.setIfInBounds i true) pend s f'
          | none => none
        | some true => match hstill P fx s (f.ev s) o with
          | some (v, z) => match f.put o.dst v with
            | some f' => bif (match z with | some z => heldB s z | none => true) then hphase P fx call ops ka r (L.setIfInBounds i true) (match z with | some z => (i, z) :: pend | none => pend) s f' else none
            | none => none
          | none => none
      else none
  | .st c :: r, L, pend, s, f => match ops[c]? with
    | none => none
    | some o => bif okSt ops ka L c then
        match lockAll s (pend.filter fun x => !Region.waitsFor .any ops c x.1) with
        | some (s1, rs) => match hstep P fx call ops.toList o s1 f with
          | some (s2, f2) => match unlockAll s2 rs with
            | some s3 => hphase P fx call ops ka r (L.setIfInBounds c true) (pend.filter fun x => !Region.waitsFor .any ops c x.1) s3 f2
            | none => none
          | none => none
        | none => none
      else none
  | l, L, pend, s, f => some (l, L, pend, s, f)

section
variable {η : Env} {w0 : Base} {μ : Mu} {s : St} {w : World} {P : Program} {fx : Facts} {ops : Array Oper} {Q : Exit → Act → World → Prop}

/-- What a pending load is: its number, whose block, what the block holds. -/
def Sp (ops : Array Oper) (pc : List (Nat × Nat × Option Obj)) (l : Array Bool) (w : World) : Prop := ∀ y ∈ pc, conf .any ops (stOf ops) y.1 l ∨ w.heap[y.2.1]? = y.2.2

inductive PCR (μ : Mu) : List (Nat × Nat) → List (Nat × Nat × Option Obj) → Prop
  | nil : PCR μ [] []
  | cons {i z : Nat} {p : Place} {O : Option Obj} {l : List (Nat × Nat)} {l' : List (Nat × Nat × Option Obj)} (h : μ z = some p) (t : PCR μ l l') : PCR μ ((i, z) :: l) ((i, p.blk, O) :: l')

theorem PCR.mono {ν : Mu} (hl : μ.le ν) {l : List (Nat × Nat)} {l' : List (Nat × Nat × Option Obj)} (h : PCR μ l l') : PCR ν l l' := by
  induction h with
  | nil => exact .nil
  | cons h _ ih => exact .cons (hl _ _ h) ih

theorem PCR.filter (q : Nat → Bool) {l : List (Nat × Nat)} {l' : List (Nat × Nat × Option Obj)} (h : PCR μ l l') : PCR μ (l.filter fun x => q x.1) (l'.filter fun x => q x.1) := by
  induction h with
  | nil => exact .nil
  | @cons i z p O l l' h t ih =>
    simp only [List.filter_cons]
    split
    · exact .cons h ih
    · exact ih

theorem PCR.mem {l : List (Nat × Nat)} {l' : List (Nat × Nat × Option Obj)} (h : PCR μ l l') : ∀ y ∈ l', ∃ x ∈ l, x.1 = y.1 ∧ ∃ p, μ x.2 = some p ∧ p.blk = y.2.1 := by
  induction h with
  | nil => intro y hy; cases hy
  | @cons i z p O l l' h t ih =>
    intro y hy
    rcases List.mem_cons.1 hy with rfl | hy
    · exact ⟨_, List.mem_cons_self .., rfl, p, h, rfl⟩
    · obtain ⟨x, h1, h2⟩ := ih y hy
      exact ⟨x, List.mem_cons_of_mem _ h1, h2⟩

/-- What is listed, with the alloc or without. -/
def Lx (kx : Option Nat) (L : Array Bool) : Array Bool := match kx with | some k => L.setIfInBounds k true | none => L

theorem Lx_set (kx : Option Nat) (L : Array Bool) (i : Nat) : Lx kx (L.setIfInBounds i true) = (Lx kx L).setIfInBounds i true := by
  cases kx with
  | none => rfl
  | some k =>
    simp only [Lx]
    by_cases h : i = k
    · subst h; rfl
    · rw [Array.setIfInBounds_comm _ _ h]

theorem Lx_size (kx : Option Nat) (L : Array Bool) : (Lx kx L).size = L.size := by
  cases kx <;> simp [Lx]

theorem idOf_mu {v v' : Value} {z : Nat} (hv : VR η μ v v') (h : idOf v = some z) : ∃ p, μ z = some p := by
  cases hv <;> simp [idOf] at h
  · rename_i p hp; subst h; exact ⟨p, hp⟩
  · rename_i p hp; subst h; exact ⟨p, hp⟩

theorem hstill0_id {ev : Operand → Option Value} {ρ : Operand → Value} (he : ∀ x v, ev x = some v → VR η μ v (ρ x)) {o : Oper} {v : Value} {z : Nat} (h : hstill0 P fx s ev o = some (v, some z)) : ∃ p, μ z = some p := by
  unfold hstill0 at h
  split at h
  · simp at h
  · simp at h
  · split at h <;> simp at h
  · split at h
    · obtain ⟨_, h⟩ := bif_some h; simp at h
    · cases h
  · split at h
    · rename_i u hu
      simp only [Option.map_eq_some_iff, Prod.mk.injEq] at h
      obtain ⟨r, hr, rfl, hz⟩ := h
      exact idOf_mu (he _ _ hu) hz
    · cases h
  · split at h
    · rename_i vx vi hvx hvi
      simp only [Option.map_eq_some_iff, Prod.mk.injEq] at h
      obtain ⟨r, hr, rfl, hz⟩ := h
      exact idOf_mu (he _ _ hvx) hz
    · cases h
  · split at h
    · obtain ⟨_, h⟩ := bif_some h; simp at h
    · cases h

theorem hstill_id {ev : Operand → Option Value} {ρ : Operand → Value} (he : ∀ x v, ev x = some v → VR η μ v (ρ x)) {o : Oper} {v : Value} {z : Nat} (h : hstill P fx s ev o = some (v, some z)) : ∃ p, μ z = some p := by
  unfold hstill at h
  split at h
  · rename_i r hr
    cases h
    exact hstill0_id he hr
  · split at h <;> simp at h

/-- All that is asked of a moment. -/
structure Mom (η : Env) (w0 : Base) (ops : Array Oper) (kx : Option Nat) (L : Array Bool) (pend : List (Nat × Nat)) (s : St) (f : HF) (pc : List (Nat × Nat × Option Obj)) (μ : Mu) (a : Act) (w : World) (fuel : Nat) : Prop where
  size : L.size = ops.size
  fuel : ops.size ≤ fuel + cnt (Lx kx L).toList
  pcr : PCR μ pend pc
  sp : Sp ops pc (Lx kx L) w
  r : R η w0 μ s w
  ar : AR η μ f a
  ex : ∀ y ∈ pc, y.2.2 ≠ none

theorem held_lt (h : R η w0 μ s w) {z : Nat} (hz : heldB s z = true) {p : Place} (hp : μ z = some p) : p.blk < w.heap.size := by
  unfold heldB at hz
  split at hz
  · rename_i ho; exact h.blk_lt ho rfl hp
  · rename_i ho
    obtain ⟨q, h1, h2, _⟩ := h.ro _ _ ho
    rw [hp] at h1; cases h1
    exact w0.old _ _ h.below h2
  · rename_i ho
    obtain ⟨q, h1, h2, _⟩ := h.lk _ _ ho
    rw [hp] at h1; cases h1
    exact w0.lold _ _ _ h.below h2
  · rename_i ho; exact h.blk_lt ho rfl hp
  · rename_i ho
    obtain ⟨q, _, h1, h2, _⟩ := h.rm _ _ _ ho
    rw [hp] at h1; cases h1
    exact w0.lold _ _ _ h.below h2
  · rename_i ho; exact h.blk_lt ho rfl hp
  · cases hz

theorem ready_lt {L : Array Bool} {i : Nat} (hs : L.size = ops.size) (hi : i ∈ Region.ready .any ops L) : L.toList[i]? = some false := by
  obtain ⟨h1, o, ho, _⟩ := mem_ready.1 hi
  have hlt : i < L.size := by rw [hs]; exact (Array.getElem?_eq_some_iff.1 ho).1
  simp [hlt] at h1
  simp [hlt, h1]

/-- The continuation after one more has been listed. -/
theorem fuel_step {L : Array Bool} {i fuel : Nat} (hs : L.size = ops.size) (hi : i ∈ Region.ready .any ops L) (hf : ops.size ≤ fuel + cnt L.toList) :
    ∃ f', fuel = f' + 1 ∧ ops.size ≤ f' + cnt (L.setIfInBounds i true).toList := by
  have h1 := ready_lt hs hi
  have h2 := cnt_lt _ _ h1
  have h3 : cnt (L.setIfInBounds i true).toList = cnt L.toList + 1 := by
    rw [Array.toList_setIfInBounds]
    exact cnt_set _ _ h1
  simp only [Array.length_toList] at h2
  exact ⟨fuel - 1, by omega, by rw [h3]; omega⟩

/-- How the alloc that has come up, if one has, stands to the frame. -/
def KX (ops : Array Oper) (kx : Option Nat) (x : Option (Option Tmp × Value)) (L : Array Bool) : Prop :=
  match kx, x with
  | none, none => True
  | some k, some (d, _) => ∃ ok, ops[k]? = some ok ∧ ok.dst = d ∧ L.getD k true = false ∧ stOf ops k = false
  | _, _ => False

theorem KX.set {kx : Option Nat} {x : Option (Option Tmp × Value)} {L : Array Bool} (h : KX ops kx x L) {i : Nat} (hi : ∀ k, kx = some k → k ≠ i) : KX ops kx x (L.setIfInBounds i true) := by
  cases kx with
  | none => cases x <;> simp_all [KX]
  | some k => cases x with
    | none => simp [KX] at h
    | some x =>
      obtain ⟨d, v⟩ := x
      obtain ⟨ok, h1, h2, h3, h4⟩ := h
      exact ⟨ok, h1, h2, by rw [getD_set_ne true (Ne.symm (hi k rfl))]; exact h3, h4⟩

theorem Sp_set {pc : List (Nat × Nat × Option Obj)} {i : Nat} (hi : stOf ops i = false) (l : Array Bool) (w : World) : Sp ops pc (l.setIfInBounds i true) w ↔ Sp ops pc l w :=
  ⟨fun h y hy => (h y hy).imp (conf_set hi l).1 id, fun h y hy => (h y hy).imp (conf_set hi l).2 id⟩

theorem apart_of_free {kx : Option Nat} {x : Option (Option Tmp × Value)} {L : Array Bool} (hk : KX ops kx x L) {i : Nat} {o : Oper} (ho : ops[i]? = some o) (hf : Region.free .any ops L i = true)
    (hi : ∀ k, kx = some k → k ≠ i ∧ Region.waitsFor .any ops k i = false) : apartx ops o x := by
  cases kx with
  | none => cases x <;> simp_all [KX, apartx]
  | some k => cases x with
    | none => simp [KX] at hk
    | some x =>
      obtain ⟨d, v⟩ := x
      obtain ⟨ok, h1, h2, h3, h4⟩ := hk
      obtain ⟨n1, n2⟩ := hi k rfl
      have hno : ∀ e ∈ ok.after, Region.binds .any e = true → e.on ≠ i := fun e he hb heq => by
        have : Region.waitsFor .any ops k i = true := by
          unfold Region.waitsFor
          rw [h1]
          exact Array.any_eq_true'.2 ⟨e, he, by simp [hb, heq]⟩
        rw [this] at n2; cases n2
      have hap := Region.free_spec ho hf k ok h1 n1 h3 hno
      obtain ⟨a1, a2, a3⟩ := Oper.apart_spec hap
      subst h2
      exact ⟨a3, a2⟩

/-- What okTake says. -/
theorem okTake_spec {ka : Option Nat} {L : Array Bool} {i : Nat} (h : okTake ops ka L i = true) :
    i ∈ Region.ready .any ops L ∧ Region.free .any ops L i = true ∧ stOf ops i = false ∧ ¬ conf .any ops (stOf ops) i L ∧ ∀ k, ka = some k → k ≠ i ∧ Region.waitsFor .any ops k i = false := by
  unfold okTake at h
  simp only [Bool.and_eq_true] at h
  obtain ⟨⟨⟨⟨h1, h2⟩, h3⟩, h4⟩, h5⟩ := h
  refine ⟨by simpa using h1, h2, by simpa using h3, ?_, fun k hk => ?_⟩
  · rintro ⟨c, k1, k2, k3⟩
    rw [List.all_eq_true] at h4
    have hc : c < ops.size := by
      unfold stOf isK at k1
      cases ho : ops[c]? with
      | none => rw [ho] at k1; cases k1
      | some o => exact (Array.getElem?_eq_some_iff.1 ho).1
    have := h4 c (List.mem_range.2 hc)
    rw [k1, k2, k3] at this
    cases this
  · subst hk
    simp only [Bool.and_eq_true, Bool.not_eq_true'] at h5
    refine ⟨fun e => ?_, h5.2⟩
    rw [(beq_iff _ _).2 e] at h5
    cases h5.1

theorem take_case {kx ka : Option Nat} {x : Option (Option Tmp × Value)} {L : Array Bool} {i : Nat} {o : Oper} {pend : List (Nat × Nat)} {f : HF} {pc : List (Nat × Nat × Option Obj)} {a : Act} {fuel : Nat}
    (hsel : Region.noSelect ops = true) (hQ : ∀ c a w, ¬ Q (.panic c) a w) (ho : ops[i]? = some o) (hok : okTake ops ka L i = true) (hk : KX ops kx x L) (hka : ∀ k, kx = some k → ka = some k)
    (hm : Mom η w0 ops kx L pend s f pc μ a w fuel) {v : Value} {T : World → Prop} (hy : YieldsIf P ops T o v a) (hT : T w)
    {pc' : List (Nat × Nat × Option Obj)} {pend' : List (Nat × Nat)} {f' : HF} (hpc : PCR μ pend' pc') (hex : ∀ y ∈ pc', y.2.2 ≠ none) (hsp : ∀ l w', (Sp ops pc l w' ∧ (conf .any ops (stOf ops) i l ∨ T w')) ↔ Sp ops pc' l w') (har : AR η μ f' (a.put o.dst v))
    (cont : ∀ fuel', Mom η w0 ops kx (L.setIfInBounds i true) pend' s f' pc' μ (a.put o.dst v) w fuel' → wpAnyG P .any ops Q (Sp ops pc') fuel' (Lx kx (L.setIfInBounds i true)) (putx x (a.put o.dst v)) w) :
    wpAnyG P .any ops Q (Sp ops pc) fuel (Lx kx L) (putx x a) w := by
  obtain ⟨h1, h2, h3, h4, h5⟩ := okTake_spec hok
  have h5' : ∀ k, kx = some k → k ≠ i ∧ Region.waitsFor .any ops k i = false := fun k hk => h5 k (hka k hk)
  have hap := apart_of_free hk ho h2 h5'
  have hst : ∀ k, kx = some k → stOf ops k = false := fun k hkk => by
    subst hkk
    cases x with
    | none => simp [KX] at hk
    | some x => obtain ⟨ok, _, _, _, e⟩ := hk; exact e
  have hr : i ∈ Region.ready .any ops (Lx kx L) := by
    cases kx with
    | none => exact h1
    | some k => exact ready_mono h1 (Ne.symm (h5' k rfl).1)
  obtain ⟨f0, rfl, hf0⟩ := fuel_step (by rw [Lx_size]; exact hm.size) hr hm.fuel
  have hc : ¬ conf .any ops (stOf ops) i (Lx kx L) := by
    cases kx with
    | none => exact h4
    | some k => exact fun hh => h4 ((conf_set (hst k rfl) L).1 hh)
  have hy' : YieldsIf P ops T o v (putx x a) := hy.of_same (execOp_putx (ops := ops) (fun cs b => Region.noSelect_spec hsel i o cs b ho) hap a) (wanted_putx hap a)
  refine wpAnyG_first ho h3 (Region.noSelect_spec hsel) (fun c a w h => absurd h (hQ _ _ _)) (fun l w' => Sp_set h3 l w') f0 (Lx kx L) (putx x a) w ?_ hr hc hy' hT hm.sp ?_
  · intro j oj hj hji hun hno
    refine Region.free_spec ho h2 j oj hj hji ?_ hno
    cases kx with
    | none => exact hun
    | some k =>
      simp only [Lx] at hun
      by_cases hkj : k = j
      · subst hkj
        have hlt : k < L.size := by rw [hm.size]; exact (Array.getElem?_eq_some_iff.1 hj).1
        simp [hlt] at hun
      · rwa [getD_set_ne true hkj] at hun
  · have hset : (Lx kx L).setIfInBounds i true = Lx kx (L.setIfInBounds i true) := (Lx_set kx L i).symm
    rw [hset, put_putx hap]
    have hsp' : Sp ops pc' (Lx kx (L.setIfInBounds i true)) w := by
      rw [← hset]
      exact (hsp _ _).1 ⟨(Sp_set h3 _ _).2 hm.sp, .inr hT⟩
    have := cont f0 ⟨by simpa using hm.size, by rw [← hset]; exact hf0, hpc, hsp', hm.r, har, hex⟩
    exact wpAnyG_mono (fun l w' h => (hsp l w').2 h) _ _ _ _ this

theorem waits_false {pend : List (Nat × Nat)} {pc : List (Nat × Nat × Option Obj)} {c : Nat} (hpc : PCR μ pend pc) {y : Nat × Nat × Option Obj} (hy : y ∈ pc) (hw : Region.waitsFor .any ops c y.1 = false) :
    ∃ x ∈ pend.filter (fun x => !Region.waitsFor .any ops c x.1), ∃ p, μ x.2 = some p ∧ p.blk = y.2.1 := by
  obtain ⟨x, h1, h2, h3⟩ := hpc.mem y hy
  exact ⟨x, List.mem_filter.2 ⟨h1, by rw [h2, hw]; rfl⟩, h3⟩

theorem st_branch (hfx : FxOK P η fx) (hg : NoG P) {call : HCall} (hc : CallOK P η call) (hsel : Region.noSelect ops = true) {kx : Option Nat} {x : Option (Option Tmp × Value)} {L : Array Bool} {c : Nat} {o : Oper}
    {pend : List (Nat × Nat)} {f f2 : HF} {pc : List (Nat × Nat × Option Obj)} {a : Act} {fuel f0 : Nat} {s1 s2 s3 : St} {rs : List (Nat × HObj)} (ho : ops[c]? = some o) (hap : apartx ops o x) (hst : stOf ops c = true)
    (hm : Mom η w0 ops kx L pend s f pc μ a w fuel) (hl : lockAll s (pend.filter fun x => !Region.waitsFor .any ops c x.1) = some (s1, rs)) (hs : hstep P fx call ops.toList o s1 f = some (s2, f2))
    (hu : unlockAll s2 rs = some s3) (hf0 : ops.size ≤ f0 + cnt (Lx kx (L.setIfInBounds c true)).toList)
    (cont : ∀ μ' a' w' pc', μ.le μ' → Mom η w0 ops kx (L.setIfInBounds c true) (pend.filter fun x => !Region.waitsFor .any ops c x.1) s3 f2 pc' μ' a' w' f0 →
      wpAnyG P .any ops Q (Sp ops pc') f0 (Lx kx (L.setIfInBounds c true)) (putx x a') w') :
    wpOp P ops Q c (fun a' w' => Sp ops pc (Lx kx (L.setIfInBounds c true)) w' ∧ wpAnyG P .any ops Q (Sp ops pc) f0 (Lx kx (L.setIfInBounds c true)) a' w') (putx x a) w := by
  obtain ⟨w1, k1, k2, k3⟩ := lockAll_sound _ w0 s s1 rs hm.r hl
  have hclt : c < L.size := by rw [hm.size]; exact (Array.getElem?_eq_some_iff.1 ho).1
  have hcl : (Lx kx (L.setIfInBounds c true)).getD c false = true := by
    rw [Lx_set]
    have : c < (Lx kx L).size := by rw [Lx_size]; exact hclt
    simp [this]
  have hconf : ∀ l : Array Bool, l.getD c false = true → ∀ i, Region.waitsFor .any ops c i = true → conf .any ops (stOf ops) i l := fun l hl i hi => ⟨c, hst, hl, hi⟩
  have key : ∀ (v' : Value) (w' : World) (μ' : Mu), μ.le μ' → R η w1 μ' s2 w' → AR η μ' f2 (a.put o.dst v') →
      Sp ops pc (Lx kx (L.setIfInBounds c true)) w' ∧ wpAnyG P .any ops Q (Sp ops pc) f0 (Lx kx (L.setIfInBounds c true)) (putx x (a.put o.dst v')) w' := by
    intro v' w' μ' hle hR hA
    obtain ⟨m1, m2⟩ := k2 w' hR.below
    have hsp : Sp ops pc (Lx kx (L.setIfInBounds c true)) w' := by
      intro y hy
      cases hw : Region.waitsFor .any ops c y.1 with
      | true => exact .inl (hconf _ hcl _ hw)
      | false =>
        rcases hm.sp y hy with hcf | heq
        · rw [Lx_set]; exact .inl (conf_mono hcf)
        · obtain ⟨z, z1, p, z2, z3⟩ := waits_false hm.pcr hy hw
          have := m2 z z1 p z2
          rw [z3] at this
          exact .inr (this.trans heq)
    refine ⟨hsp, ?_⟩
    have hsp' : Sp ops (pc.filter fun y => !Region.waitsFor .any ops c y.1) (Lx kx (L.setIfInBounds c true)) w' := fun y hy => hsp y (List.mem_filter.1 hy).1
    have := cont μ' (a.put o.dst v') w' (pc.filter fun y => !Region.waitsFor .any ops c y.1) hle ⟨by simpa using hm.size, hf0, (hm.pcr.mono hle).filter (fun j => !Region.waitsFor .any ops c j), hsp', k3 μ' s2 s3 w' hle hR hu, hA, fun y hy => hm.ex y (List.mem_filter.1 hy).1⟩
    refine wpAnyG_from (c := c) (fun l w'' hlc h y hy => ?_) f0 _ _ _ hcl this
    cases hw : Region.waitsFor .any ops c y.1 with
    | true => exact .inl (hconf _ hlc _ hw)
    | false => exact h y (List.mem_filter.2 ⟨hy, by rw [hw]; rfl⟩)
  have hstep := hstep_sound (Q := fun e a' w' => Q e (putx x a') w') hfx hg hc k1 hm.ar hs (K := fun a' w' => Sp ops pc (Lx kx (L.setIfInBounds c true)) w' ∧ wpAnyG P .any ops Q (Sp ops pc) f0 (Lx kx (L.setIfInBounds c true)) (putx x a') w') key
  have hsel' : ∀ cs b, o.op ≠ .select cs b := fun cs b => Region.noSelect_spec hsel c o cs b ho
  unfold wpOp
  simp only [ho, wanted_putx hap a]
  split
  · rename_i hw
    rw [if_pos hw] at hstep
    exact .inl (wp_putx hsel' hap (putx_defers x) hstep)
  · rename_i hw
    rw [if_neg hw] at hstep
    rw [put_putx hap]
    exact hstep

theorem okSt_spec {ka : Option Nat} {L : Array Bool} {c : Nat} (h : okSt ops ka L c = true) :
    stOf ops c = true ∧ c ∈ Region.ready .any ops L ∧ (∀ j ∈ Region.ready .any ops L, j = c ∨ ka = some j) ∧
    ∀ k, ka = some k → k ≠ c ∧ (∀ j ∈ Region.ready .any ops (L.setIfInBounds k true), j = c) ∧ ∃ oc ok, ops[c]? = some oc ∧ ops[k]? = some ok ∧ oc.apart ops ok = true := by
  unfold okSt at h
  simp only [Bool.and_eq_true] at h
  obtain ⟨⟨⟨h1, h2⟩, h3⟩, h4⟩ := h
  rw [List.all_eq_true] at h3
  refine ⟨h1, by simpa using h2, fun j hj => ?_, fun k hk => ?_⟩
  · have := h3 j hj
    unfold oneOf at this
    rw [Bool.or_eq_true] at this
    rcases this with h | h
    · exact .inl ((beq_iff _ _).1 h)
    · cases ka with
      | none => cases h
      | some k => exact .inr (by rw [(beq_iff _ _).1 h])
  · subst hk
    simp only [Bool.and_eq_true, Bool.not_eq_true'] at h4
    obtain ⟨⟨m1, m2⟩, m3⟩ := h4
    rw [List.all_eq_true] at m2
    refine ⟨fun e => ?_, fun j hj => ?_, ?_⟩
    · rw [(beq_iff _ _).2 e] at m1; cases m1
    · have := m2 j hj
      simpa [oneOf, beq_iff] using this
    · cases hoc : ops[c]? with
      | none => rw [hoc] at m3; cases m3
      | some oc =>
        cases hok : ops[k]? with
        | none => rw [hoc, hok] at m3; cases m3
        | some ok => rw [hoc, hok] at m3; exact ⟨oc, ok, rfl, rfl, m3⟩

theorem apart_of_st {ka kx : Option Nat} {x : Option (Option Tmp × Value)} {L : Array Bool} {c : Nat} {o : Oper} (hok : okSt ops ka L c = true) (hk : KX ops kx x L) (hka : ∀ k, kx = some k → ka = some k) (ho : ops[c]? = some o) : apartx ops o x := by
  obtain ⟨_, _, _, h4⟩ := okSt_spec hok
  cases kx with
  | none => cases x <;> simp_all [KX, apartx]
  | some k => cases x with
    | none => simp [KX] at hk
    | some x =>
      obtain ⟨d, v⟩ := x
      obtain ⟨ok, h1, h2, _, _⟩ := hk
      obtain ⟨_, _, oc, ok', m1, m2, m3⟩ := h4 k (hka k rfl)
      rw [ho] at m1; cases m1
      rw [h1] at m2; cases m2
      obtain ⟨a1, a2, a3⟩ := Oper.apart_spec m3
      subst h2
      exact ⟨a3, a2⟩

/-- What is shown at the end of a phase is shown at its beginning (no alloc is under way, or it has come up already). -/
theorem phaseA (hfx : FxOK P η fx) (hg : NoG P) {call : HCall} (hc : CallOK P η call) (hsel : Region.noSelect ops = true) (hQ : ∀ c a w, ¬ Q (.panic c) a w) {kx ka : Option Nat} {x : Option (Option Tmp × Value)} (hkk : kx = ka)
    {w0 : Base} {l' : List PS} {L' : Array Bool} {pend' : List (Nat × Nat)} {s' : St} {f' : HF} {μ0 : Mu}
    (fin : ∀ μ' a' w' pc' fuel', μ0.le μ' → KX ops kx x L' → Mom η w0 ops kx L' pend' s' f' pc' μ' a' w' fuel' → wpAnyG P .any ops Q (Sp ops pc') fuel' (Lx kx L') (putx x a') w') :
    ∀ (l : List PS) (L : Array Bool) (pend : List (Nat × Nat)) (s : St) (f : HF) (μ : Mu) (a : Act) (w : World) (pc : List (Nat × Nat × Option Obj)) (fuel : Nat), μ0.le μ → KX ops kx x L →
      Mom η w0 ops kx L pend s f pc μ a w fuel → hphase P fx call ops ka l L pend s f = some (l', L', pend', s', f') → wpAnyG P .any ops Q (Sp ops pc) fuel (Lx kx L) (putx x a) w := by
  subst hkk
  intro l
  induction l with
  | nil =>
    intro L pend s f μ a w pc fuel hμ hk hm hr
    cases hr
    exact fin _ _ _ _ _ hμ hk hm
  | cons st r ih =>
    intro L pend s f μ a w pc fuel hμ hk hm hr
    cases st with
    | commit k =>
      cases hr
      exact fin _ _ _ _ _ hμ hk hm
    | take i =>
      simp only [hphase] at hr
      split at hr
      · cases hr
      · rename_i o ho
        obtain ⟨hok, hr⟩ := bif_some hr
        have hk' : KX ops kx x (L.setIfInBounds i true) := hk.set fun k hkk => ((okTake_spec hok).2.2.2.2 k hkk).1
        split at hr
        · cases hr
        · rename_i hw
          split at hr
          · rename_i f1 hf1
            refine take_case (v := undef) (T := fun _ => True) (pc' := pc) hsel hQ ho hok hk (fun k h => h) hm (.inr ⟨wanted_sound hm.ar hw, rfl⟩) trivial hm.pcr hm.ex (fun l w' => ⟨fun h => h.1, fun h => ⟨h, .inr trivial⟩⟩) (put_sound hm.ar undef_vr hf1) ?_
            exact fun fuel' hm' => ih _ _ _ _ _ _ _ _ _ hμ hk' hm' hr
          · cases hr
        · rename_i hw
          split at hr
          · rename_i v z hv
            split at hr
            · rename_i f1 hf1
              obtain ⟨hheld, hr⟩ := bif_some hr
              have he := ev_sound hm.r hm.ar
              obtain ⟨v', k1, k2⟩ := hstill_sound hfx hm.r he hv
              have hy : YieldsIf P ops (fun w' => ∀ i p, z = some i → μ i = some p → w'.heap[p.blk]? = w.heap[p.blk]?) o v' a := .inl ⟨wanted_sound hm.ar hw, fun w' hw' => k1 w' hw'⟩
              cases z with
              | none =>
                refine take_case (pc' := pc) hsel hQ ho hok hk (fun k h => h) hm hy (fun i p h => by cases h) hm.pcr hm.ex (fun l w' => ⟨fun h => h.1, fun h => ⟨h, .inr fun i p h => by cases h⟩⟩) (put_sound hm.ar k2 hf1) ?_
                exact fun fuel' hm' => ih _ _ _ _ _ _ _ _ _ hμ hk' hm' hr
              | some z =>
                obtain ⟨p, hp⟩ := hstill_id he hv
                refine take_case (pc' := (i, p.blk, w.heap[p.blk]?) :: pc) hsel hQ ho hok hk (fun k h => h) hm hy (fun i q _ _ => rfl) (.cons hp hm.pcr) (fun y hy => (List.mem_cons.1 hy).elim (fun e => by subst e; have := held_lt hm.r hheld hp; simp [this]) (hm.ex y)) (fun l w' => ⟨fun h y hy => ?_, fun h => ⟨fun y hy => h y (List.mem_cons_of_mem _ hy), ?_⟩⟩) (put_sound hm.ar k2 hf1) ?_
                · rcases List.mem_cons.1 hy with rfl | hy
                  · exact h.2.imp id fun hT => hT z p rfl hp
                  · exact h.1 y hy
                · exact (h _ (List.mem_cons_self ..)).imp id fun he i q hi hq => by cases hi; rw [hp] at hq; cases hq; exact he
                · exact fun fuel' hm' => ih _ _ _ _ _ _ _ _ _ hμ hk' hm' hr
            · cases hr
          · cases hr
    | st c =>
      simp only [hphase] at hr
      split at hr
      · cases hr
      · rename_i o ho
        obtain ⟨hok, hr⟩ := bif_some hr
        obtain ⟨q1, q2, q3, q4⟩ := okSt_spec hok
        have hk' : KX ops kx x (L.setIfInBounds c true) := hk.set fun k hkk => (q4 k hkk).1
        split at hr
        · rename_i s1 rs hl
          split at hr
          · rename_i s2 f2 hs
            split at hr
            · rename_i s3 hu
              have hready : c ∈ Region.ready .any ops (Lx kx L) ∧ ∀ j ∈ Region.ready .any ops (Lx kx L), j = c := by
                cases kx with
                | none => exact ⟨q2, fun j hj => (q3 j hj).elim id fun h => by cases h⟩
                | some k => exact ⟨ready_mono q2 (Ne.symm (q4 k rfl).1), (q4 k rfl).2.1⟩
              obtain ⟨f0, rfl, hf0⟩ := fuel_step (by rw [Lx_size]; exact hm.size) hready.1 hm.fuel
              refine ⟨fun h0 => (by have := hready.1; rw [h0] at this; cases this), fun j hj => ?_⟩
              have := hready.2 j hj
              subst this
              rw [← Lx_set] at hf0 ⊢
              exact st_branch hfx hg hc hsel ho (apart_of_st hok hk (fun k h => h) ho) q1 hm hl hs hu hf0 fun μ' a' w' pc' hle hm' => ih _ _ _ _ _ _ _ _ _ (Mu.le_trans hμ hle) hk' hm' hr
            · cases hr
          · cases hr
        · cases hr

end
end Go.Hx
