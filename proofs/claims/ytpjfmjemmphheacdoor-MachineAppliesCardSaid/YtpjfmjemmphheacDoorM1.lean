/- MachineApplies: the reference: at, object, Read. Conditions: none. -/
import Derived.Test.YtpjfmjemmphheacDoorE8
import Derived.IntWalk
import Derived.Test.YtpjfmjemmphheacDoorProg
import Derived.KernelRfl
set_option linter.all false
set_option linter.unusedVariables false
set_option linter.unusedSimpArgs false
namespace Go.Hx
open Go Go.RowKit

abbrev V := Bool × Int
abbrev O := Int × List V
def encV (v : V) : Value := .agg ⟨[.bool v.1, .int .i64 v.2]⟩
def encFs (l : List V) : Value := frz (l.map encV)
def encO (o : O) : Value := .agg ⟨[.int .i64 o.1, encFs o.2]⟩
def encOs (l : List O) : Value := frz (l.map encO)
def encH (l : List O) : Value := .agg ⟨[encOs l]⟩
def bodyOf (P : Program) (g : Nat) : Code := match P.funcs[g]? with
  | some fn => fn.body.getD .skip
  | none => .skip
def pcs (P : Program) (g : Nat) : List Code := flatC (bodyOf P g)
def nth (l : List Code) (k : Nat) : Code := l.getD k .skip
def loopIn : Code → Code
  | .block _ (.loop c) => c
  | _ => .skip
def condOf : Code → Operand
  | .cond c _ _ => c
  | _ => .tmp 0
def elseIn : Code → Code
  | .cond _ _ b => b
  | _ => .skip
def thenIn : Code → Code
  | .cond _ a _ => a
  | _ => .skip
theorem wrap_nat {n : Nat} (h : n < 9223372036854775808) : IntKind.i64.wrap (n : Int) = n := IntWalk.i64_in _ (by omega)
theorem map_at {α : Type} {f : α → Value} {l : List α} {k : Nat} {x : α} (h : l[k]? = some x) : (l.map f)[((k : Nat) : Int).toNat]? = some (f x) := by simp [h]
theorem at_split {α : Type} (p : List α) (x : α) (q : List α) : (p ++ x :: q)[p.length]? = some x := by simp
def atI : List O → Int → Nat → Int
  | [], _, _ => -1
  | o :: l, id, i => if o.1 = id then (i : Int) else atI l id (i + 1)
/-- Lists of a size that there may be. -/
def SmV (l : List V) : Prop := l.length * 16 ≤ 140737488355328
def SmO (l : List O) : Prop := l.length ≤ 100000 ∧ ∀ o ∈ l, SmV o.2
def findO (os : List O) (id : Int) : Option O := os.find? (fun o => decide (o.1 = id))
def rdI (os : List O) (id f : Int) : Option V := (findO os id).bind fun o => if 0 ≤ f then o.2[f.toNat]? else none

theorem atI_none : ∀ (os : List O) (id : Int) (i : Nat), findO os id = none → atI os id i = -1
  | [], _, _, _ => rfl
  | o :: l, id, i, h => by
    unfold findO at h
    rw [List.find?_cons] at h
    by_cases ho : o.1 = id
    · simp [ho] at h
    · simp only [ho, decide_false] at h
      simp only [atI, if_neg ho]
      exact atI_none l id (i + 1) h
theorem atI_some : ∀ (os : List O) (id : Int) (i : Nat) (o : O), findO os id = some o → ∃ k : Nat, atI os id i = ((i + k : Nat) : Int) ∧ os[k]? = some o ∧ o.1 = id
  | [], _, _, _, h => by cases h
  | o' :: l, id, i, o, h => by
    unfold findO at h
    rw [List.find?_cons] at h
    by_cases ho : o'.1 = id
    · simp only [ho, decide_true, Option.some.injEq] at h
      subst h
      exact ⟨0, by simp [atI, ho], rfl, ho⟩
    · simp only [ho, decide_false] at h
      obtain ⟨k, h1, h2, h3⟩ := atI_some l id (i + 1) o h
      exact ⟨k + 1, by simp only [atI, if_neg ho, h1]; congr 1; omega, by simpa using h2, h3⟩
theorem flatV_encV (l : List V) : ∀ v ∈ l.map encV, v.cells.size = 2 := by
  intro v hv
  obtain ⟨x, _, rfl⟩ := List.mem_map.1 hv
  rfl
theorem flatV_encO (l : List O) : ∀ v ∈ l.map encO, v.cells.size = 2 := by
  intro v hv
  obtain ⟨x, _, rfl⟩ := List.mem_map.1 hv
  rfl
theorem beqF {n : Nat} (h : n ≠ 0) : Nat.beq n 0 = false := by
  cases hb : Nat.beq n 0 with
  | false => rfl
  | true => exact absurd ((beq_iff _ _).1 hb) h
theorem beqT {n : Nat} (h : n = 0) : Nat.beq n 0 = true := (beq_iff _ _).2 h
theorem apOK {a b c d : Nat} (h : a ≤ b) (k : c ≤ d) : (Nat.ble a b && Nat.ble c d) = true := by
  rw [Nat.ble_eq_true_of_le h, Nat.ble_eq_true_of_le k]; rfl
theorem allP_nil_iff : allP [] ↔ True := ⟨fun _ => trivial, fun _ => allP.nil⟩
theorem allP_cons_iff {p : Prop} {l : List Prop} : allP (p :: l) ↔ p ∧ allP l := ⟨fun h => ⟨h p (by simp), fun q hq => h q (by simp [hq])⟩, fun h => .cons h.1 h.2⟩
theorem encV0 : Value.agg { toList := [Value.bool false, Value.int IntKind.i64 0] } = encV (false, 0) := rfl
end Go.Hx

namespace Go.Proofs.MA
open Go Go.Hx Go.RowKit Go.Proofs
set_option maxRecDepth 100000

theorem noGT : NoG Tryd.prog := noG_ok (by kernel_rfl)

/-! ### at -/
theorem at_1 (os : List O) (id : Int) : hrun Tryd.prog noK 5 ((pcs Tryd.prog 40).take 2) St0 (entF [encH os, .int .i64 id] 21) [] [] ⟨[], [], [1, 8, 9, 10], 0, 0, false⟩ =
    some (HX.normal, [], [(1, Value.int IntKind.i64 id), (8, frz (List.map encO os)), (9, Value.int IntKind.i64 ↑(List.length (List.map encO os))), (10, Value.int IntKind.i64 0)], []) := by kernel_rfl

theorem at_r (os : List O) (id : Int) (o : O) (k : Int) : hrun Tryd.prog noK 5 ((flatC (loopIn (nth (pcs Tryd.prog 40) 2))).take 9) (mkSt [] 0 0) (mkF [(1, .int .i64 id), (8, encOs os), (9, .int .i64 os.length), (10, .int .i64 k)] 21) [true, false] [[encO o]] ⟨[], [], [1, 8, 9, 10], 0, 0, false⟩ =
    some (HX.normal, [], [(1, Value.int IntKind.i64 id), (8, frz (List.map encO os)), (9, Value.int IntKind.i64 ↑(List.length os)), (10, Value.int IntKind.i64 (IntKind.wrap IntKind.i64 (k + 1)))], [(o.fst == id) = false, 0 ≤ k ∧ (List.map encO os)[Int.toNat k]? = some (Value.agg { toList := [Value.int IntKind.i64 o.fst, frz (List.map encV o.snd)] }), decide (k < ↑(List.length os)) = true]) := by kernel_rfl

theorem at_h (os : List O) (id : Int) (o : O) (k : Int) : hrun Tryd.prog noK 5 ((flatC (loopIn (nth (pcs Tryd.prog 40) 2))).take 9) (mkSt [] 0 0) (mkF [(1, .int .i64 id), (8, encOs os), (9, .int .i64 os.length), (10, .int .i64 k)] 21) [true, true] [[encO o]] ⟨[], [], [4], 0, 0, false⟩ =
    some (HX.ret, [], [(4, Value.int IntKind.i64 k)], [(o.fst == id) = true, 0 ≤ k ∧ (List.map encO os)[Int.toNat k]? = some (Value.agg { toList := [Value.int IntKind.i64 o.fst, frz (List.map encV o.snd)] }), decide (k < ↑(List.length os)) = true]) := by kernel_rfl

theorem at_x (os : List O) (id : Int) (k : Int) : hrun Tryd.prog noK 5 ((flatC (loopIn (nth (pcs Tryd.prog 40) 2))).take 9) (mkSt [] 0 0) (mkF [(1, .int .i64 id), (8, encOs os), (9, .int .i64 os.length), (10, .int .i64 k)] 21) [false] [] ⟨[], [], [], 0, 0, false⟩ =
    some (HX.exit 0, [], [], [decide (k < ↑(List.length os)) = false]) := by kernel_rfl

theorem at_e (u : Unit) : hrun Tryd.prog noK 5 ((pcs Tryd.prog 40).drop 3 |>.take 9) (mkSt [] 0 0) (mkF [] 21) [] [] ⟨[], [], [4], 0, 0, false⟩ =
    some (HX.ret, [], [(4, Value.int IntKind.i64 (-1))], []) := by kernel_rfl

theorem at_f (n : Int) : hfin Tryd.prog Tryd.f40 (mkSt [] 0 0) (mkF [(4, .int .i64 n)] 21) [] ⟨[], [], [], 0, 0, false⟩ =
    some (Value.int IntKind.i64 n, [], []) := by kernel_rfl

theorem at_l : (pcs Tryd.prog 40).drop 2 = .block 0 (.loop (loopIn (nth (pcs Tryd.prog 40) 2))) :: (pcs Tryd.prog 40).drop 3 := by kernel_rfl

theorem at_ok (os : List O) (id : Int) (hl : SmO os) : FnEx Tryd.prog 40 [encH os, .int .i64 id] St0 (fun u _ => u = .int .i64 (atI os id 0)) := by
  have hl := hl.1
  refine FnEx.enter (n0 := 0) (fn := Tryd.f40) (c := bodyOf Tryd.prog 40) Tryd.func40 (by kernel_rfl) rfl rfl ?_
  refine Ex.stepN noGT noK_ok 2 21 0 0 (at_1 os id) rfl allP.nil ?_
  show Ex _ _ ((pcs Tryd.prog 40).drop 2) _ _ _
  rw [at_l]
  refine Ex.loop (fun m s f => ∃ p q, os = p ++ q ∧ q.length = m ∧ atI os id 0 = atI q id p.length ∧ s = mkSt [] 0 0 ∧ f = mkF [(1, .int .i64 id), (8, encOs os), (9, .int .i64 os.length), (10, .int .i64 p.length)] 21) ?_ ⟨[], os, rfl, rfl, rfl, rfl, by simp [encOs, frz]⟩
  rintro m s f ⟨p, q, hos, hm, hat, rfl, rfl⟩
  cases q with
  | nil =>
    refine Ex.stepN noGT noK_ok 9 21 0 0 (at_x os id p.length) rfl (.cons (by simp [hos]) .nil) ?_
    refine goOn.out ?_
    refine Ex.stepN noGT noK_ok 9 21 0 0 (at_e ()) rfl allP.nil ?_
    exact FinQ.mk' (.inr rfl) (at_f (-1)) rfl allP.nil (by rw [hat]; rfl)
  | cons o q =>
    have hk : os[p.length]? = some o := by rw [hos]; exact at_split p o q
    have hlt : p.length < os.length := by rw [hos]; simp
    by_cases ho : o.1 = id
    · refine Ex.stepN noGT noK_ok 9 21 0 0 (at_h os id o p.length) rfl (.cons (by simp [ho]) (.cons ⟨by omega, map_at hk⟩ (.cons (by simp; omega) .nil))) ?_
      refine FinQ.mk' (.inr rfl) (at_f p.length) rfl allP.nil ?_
      rw [hat]
      simp [atI, ho]
    · refine Ex.stepN noGT noK_ok 9 21 0 0 (at_r os id o p.length) rfl (.cons (by simpa using ho) (.cons ⟨by omega, map_at hk⟩ (.cons (by simp; omega) .nil))) ?_
      refine Ex.nil ⟨m - 1, by simp at hm; omega, p ++ [o], q, by simp [hos], by simp at hm; omega, by rw [hat]; simp [atI, ho], rfl, ?_⟩
      have : IntKind.wrap IntKind.i64 ((p.length : Int) + 1) = ((p ++ [o]).length : Int) := by
        rw [IntWalk.i64_in _ (by omega)]; simp
      rw [this]
      rfl

def relAt : Rel := fun args v => ∃ os id, SmO os ∧ args = [encH os, .int .i64 id] ∧ v = .int .i64 (atI os id 0)
theorem relAt_ok : ∀ args v, relAt args v → FnEx Tryd.prog 40 args St0 (fun u _ => u = v) := by
  rintro args v ⟨os, id, h, rfl, rfl⟩
  exact at_ok os id h

/-! ### object -/
theorem ob_a (o : O) : hrun Tryd.prog noK 5 (pcs Tryd.prog 41) St0 (entF [encO o] 8) [false] [] ⟨[(1, 0, false), (2, 1, false)], [], [2], 2, 0, false⟩ =
    some (HX.ret, [(0, HObj.row false [Value.int IntKind.i64 o.fst, Value.slice (some { block := 1, off := 0 }) (List.length (List.map encV o.snd)) 9223372036854775810] 64), (1, HObj.row true (flatV (List.map encV o.snd)) 24)], [(2, Value.pointer (some { block := 0, off := 0 }))], [(Nat.ble ((0 + List.length (List.map encV o.snd)) * 16) 140737488355328 && Nat.ble (0 + List.length (List.map encV o.snd)) 4611686018427387904) = true, ∀ (v : Value), v ∈ List.map encV o.snd → Array.size (Value.cells v) = 2, Nat.beq (List.length (List.map encV o.snd)) 0 = false]) := by kernel_rfl

theorem ob_b (o : O) : hrun Tryd.prog noK 5 (pcs Tryd.prog 41) St0 (entF [encO o] 8) [true] [] ⟨[(1, 0, false)], [], [2], 1, 0, false⟩ =
    some (HX.ret, [(0, HObj.row false [Value.int IntKind.i64 o.fst, Value.slice none 0 0] 64)], [(2, Value.pointer (some { block := 0, off := 0 }))], [Nat.beq (List.length (List.map encV o.snd)) 0 = true]) := by kernel_rfl

theorem ob_fa (o : O) : hfin Tryd.prog Tryd.f41 (mkSt [(0, .row false [.int .i64 o.1, .slice (some ⟨1, 0, none⟩) (o.2.map encV).length (UNK + 2)] 64), (1, .row true (flatV (o.2.map encV)) 24)] 2 0) (mkF [(2, .pointer (some ⟨0, 0, none⟩))] 8) [] ⟨[], [(1, 2, o.2.map encV)], [], 0, 0, false⟩ =
    some (Value.agg { toList := [Value.int IntKind.i64 o.fst, frz (List.map encV o.snd)] }, [], [flatV (List.map encV o.snd) = flatV (List.map encV o.snd) ∧ (∀ (v : Value), v ∈ List.map encV o.snd → Array.size (Value.cells v) = 2) ∧ 0 < 2, List.length (List.map encV o.snd) = List.length (List.map encV o.snd)]) := by kernel_rfl

theorem ob_fb (o : O) : hfin Tryd.prog Tryd.f41 (mkSt [(0, .row false [.int .i64 o.1, .slice none 0 0] 64)] 1 0) (mkF [(2, .pointer (some ⟨0, 0, none⟩))] 8) [] ⟨[], [], [], 0, 0, true⟩ =
    some (Value.agg { toList := [Value.int IntKind.i64 o.fst, frz ([])] }, [], []) := by kernel_rfl

theorem ob_ok (o : O) (h : SmV o.2) : FnEx Tryd.prog 41 [encO o] St0 (fun u _ => u = encO o) := by
  unfold SmV at h
  refine FnEx.enter (n0 := 0) (fn := Tryd.f41) (c := bodyOf Tryd.prog 41) Tryd.func41 (by kernel_rfl) rfl rfl ?_
  cases hfs : o.2 with
  | nil =>
    refine Ex.stepN noGT noK_ok 9 8 0 1 (ob_b o) rfl (.cons (by simp [hfs]) .nil) ?_
    exact FinQ.mk' (.inr rfl) (ob_fb o) rfl allP.nil (by simp [encO, encFs, frz, hfs])
  | cons v l =>
    refine Ex.stepN noGT noK_ok 9 8 0 2 (ob_a o) rfl (.cons ?_ (.cons (flatV_encV _) (.cons (beqF (by simp [hfs])) .nil))) ?_
    · refine apOK (by simp; omega) (by simp; omega)
    · exact FinQ.mk' (.inr rfl) (ob_fa o) rfl (.cons ⟨rfl, flatV_encV _, by omega⟩ (.cons rfl .nil)) rfl

def relOb : Rel := fun args v => ∃ o, SmV o.2 ∧ args = [encO o] ∧ v = encO o
theorem relOb_ok : ∀ args v, relOb args v → FnEx Tryd.prog 41 args St0 (fun u _ => u = v) := by
  rintro args v ⟨o, h, rfl, rfl⟩
  exact ob_ok o h

end Go.Proofs.MA

namespace Go.Proofs.MA
open Go Go.Hx Go.RowKit Go.Proofs
set_option maxRecDepth 100000

def kAt : HCall := specK [(40, relAt), (41, relOb)]
theorem kAt_ok : CallOK Tryd.prog kAt := specK_ok fun g rel hm args v h _ _ => by
  simp only [List.mem_cons, Prod.mk.injEq, List.mem_nil_iff, or_false] at hm
  rcases hm with ⟨rfl, rfl⟩ | ⟨rfl, rfl⟩
  · exact relAt_ok args v h
  · exact relOb_ok args v h

/-! ### Read -/
theorem rd_a (os : List O) (id f : Int) : hrun Tryd.prog kAt 5 (pcs Tryd.prog 42) St0 (entF [encH os, .int .i64 id, .int .i64 f] 39) ([false, false] ++ [true] ++ List.replicate 9 false ++ [true, true]) [[.int .i64 (-1)]] ⟨[(1, 0, false)], [], [6, 7], 1, 0, false⟩ =
    some (HX.ret, [(0, HObj.row false [Value.bool false, Value.int IntKind.i64 0] 24)], [(6, Value.pointer (some { block := 0, off := 0 })), (7, Value.bool false)], [true = true, true = true, (true == false) = false, (true == false) = false, (true == false) = false, (true == false) = false, (true == false) = false, (true == false) = false, (true == false) = false, (true == false) = false, (true == false) = false, decide (-1 < 0) = true, (decide (-1 < 0) == false) = false, (decide (-1 < 0) == false) = false, relAt [Value.agg { toList := [frz (List.map encO os)] }, Value.int IntKind.i64 id] (Value.int IntKind.i64 (-1))]) := by kernel_rfl

theorem rd_b (os : List O) (id f : Int) (j : Int) : hrun Tryd.prog kAt 5 (pcs Tryd.prog 42) St0 (entF [encH os, .int .i64 id, .int .i64 f] 39) ([true, true] ++ [false] ++ List.replicate 9 false ++ [true, true]) [[.int .i64 j]] ⟨[(1, 0, false)], [], [6, 7], 1, 0, false⟩ =
    some (HX.ret, [(0, HObj.row false [Value.bool false, Value.int IntKind.i64 0] 24)], [(6, Value.pointer (some { block := 0, off := 0 })), (7, Value.bool false)], [true = true, decide (f < 0) = true, (decide (f < 0) == false) = false, (decide (f < 0) == false) = false, (decide (f < 0) == false) = false, (decide (f < 0) == false) = false, (decide (f < 0) == false) = false, (decide (f < 0) == false) = false, (decide (f < 0) == false) = false, (decide (f < 0) == false) = false, (decide (f < 0) == false) = false, decide (j < 0) = false, (decide (j < 0) == false) = true, (decide (j < 0) == false) = true, relAt [Value.agg { toList := [frz (List.map encO os)] }, Value.int IntKind.i64 id] (Value.int IntKind.i64 j)]) := by kernel_rfl

theorem rd_c (os : List O) (id f : Int) (j : Int) (o : O) : hrun Tryd.prog kAt 5 (pcs Tryd.prog 42) St0 (entF [encH os, .int .i64 id, .int .i64 f] 39) ([true, true] ++ [false] ++ List.replicate 9 true ++ [false, true]) [[.int .i64 j], [encO o]] ⟨[(1, 0, false)], [], [6, 7], 1, 0, false⟩ =
    some (HX.ret, [(0, HObj.row false [Value.bool false, Value.int IntKind.i64 0] 24)], [(6, Value.pointer (some { block := 0, off := 0 })), (7, Value.bool false)], [decide (f ≥ ↑(List.length (List.map encV o.snd))) = true, decide (f < 0) = false, (decide (f < 0) == false) = true, (decide (f < 0) == false) = true, (decide (f < 0) == false) = true, (decide (f < 0) == false) = true, 0 ≤ j ∧ (List.map encO os)[Int.toNat j]? = some (Value.agg { toList := [Value.int IntKind.i64 o.fst, frz (List.map encV o.snd)] }), (decide (f < 0) == false) = true, (decide (f < 0) == false) = true, (decide (f < 0) == false) = true, (decide (f < 0) == false) = true, (decide (f < 0) == false) = true, decide (j < 0) = false, (decide (j < 0) == false) = true, (decide (j < 0) == false) = true, relAt [Value.agg { toList := [frz (List.map encO os)] }, Value.int IntKind.i64 id] (Value.int IntKind.i64 j)]) := by kernel_rfl

theorem rd_d (os : List O) (id f : Int) (j : Int) (o : O) (v : V) : hrun Tryd.prog kAt 5 (pcs Tryd.prog 42) St0 (entF [encH os, .int .i64 id, .int .i64 f] 39) ([true, true] ++ [false] ++ List.replicate 9 true ++ [false, false]) [[.int .i64 j], [encO o], [encO o], [encV v]] ⟨[(1, 0, false)], [], [6, 7], 1, 0, false⟩ =
    some (HX.ret, [(0, HObj.row false [Value.bool v.fst, Value.int IntKind.i64 v.snd] 24)], [(6, Value.pointer (some { block := 0, off := 0 })), (7, Value.bool true)], [0 ≤ f ∧ (List.map encV o.snd)[Int.toNat f]? = some (Value.agg { toList := [Value.bool v.fst, Value.int IntKind.i64 v.snd] }), 0 ≤ j ∧ (List.map encO os)[Int.toNat j]? = some (Value.agg { toList := [Value.int IntKind.i64 o.fst, frz (List.map encV o.snd)] }), decide (f ≥ ↑(List.length (List.map encV o.snd))) = false, decide (f < 0) = false, (decide (f < 0) == false) = true, (decide (f < 0) == false) = true, (decide (f < 0) == false) = true, (decide (f < 0) == false) = true, 0 ≤ j ∧ (List.map encO os)[Int.toNat j]? = some (Value.agg { toList := [Value.int IntKind.i64 o.fst, frz (List.map encV o.snd)] }), (decide (f < 0) == false) = true, (decide (f < 0) == false) = true, (decide (f < 0) == false) = true, (decide (f < 0) == false) = true, (decide (f < 0) == false) = true, decide (j < 0) = false, (decide (j < 0) == false) = true, (decide (j < 0) == false) = true, relAt [Value.agg { toList := [frz (List.map encO os)] }, Value.int IntKind.i64 id] (Value.int IntKind.i64 j)]) := by kernel_rfl

theorem rd_f (v : V) (b : Bool) : hfin Tryd.prog Tryd.f42 (mkSt [(0, .row false [.bool v.1, .int .i64 v.2] 24)] 1 0) (mkF [(6, .pointer (some ⟨0, 0, none⟩)), (7, .bool b)] 39) [] ⟨[], [], [], 0, 0, false⟩ =
    some (Value.tuple { toList := [Value.agg { toList := [Value.bool v.fst, Value.int IntKind.i64 v.snd] }, Value.bool b] }, [], []) := by kernel_rfl

theorem rd_ok (os : List O) (id f : Int) (hl : SmO os) : FnEx Tryd.prog 42 [encH os, .int .i64 id, .int .i64 f] St0
    (fun u _ => u = .tuple ⟨[encV ((rdI os id f).getD (false, 0)), .bool (rdI os id f).isSome]⟩) := by
  refine FnEx.enter (n0 := 0) (fn := Tryd.f42) (c := bodyOf Tryd.prog 42) Tryd.func42 (by kernel_rfl) rfl rfl ?_
  show Ex _ _ (pcs Tryd.prog 42) _ _ _
  cases hfo : findO os id with
  | none =>
    have hA : relAt [encH os, .int .i64 id] (.int .i64 (-1)) := ⟨os, id, hl, rfl, by rw [atI_none os id 0 hfo]⟩
    refine Ex.stepN noGT kAt_ok 99 39 0 1 (rd_a os id f) rfl (by ((repeat' refine allP.cons ?_ ?_) <;> first | exact allP.nil | assumption | rfl | (exact ⟨by omega, by assumption⟩) | (simp; done) | (simp; omega) | skip)) ?_
    exact FinQ.mk' (.inr rfl) (rd_f (false, 0) false) rfl allP.nil (by simp [rdI, hfo, encV0])
  | some o =>
    obtain ⟨k, h1, h2, h3⟩ := atI_some os id 0 o hfo
    rw [Nat.zero_add] at h1
    have hA : relAt [encH os, .int .i64 id] (.int .i64 (k : Int)) := ⟨os, id, hl, rfl, by rw [h1]⟩
    have hO : (os.map encO)[((k : Nat) : Int).toNat]? = some (encO o) := map_at h2
    by_cases hf0 : f < 0
    · refine Ex.stepN noGT kAt_ok 99 39 0 1 (rd_b os id f k) rfl (by ((repeat' refine allP.cons ?_ ?_) <;> first | exact allP.nil | assumption | rfl | (exact ⟨by omega, by assumption⟩) | (simp; done) | (simp; omega) | skip)) ?_
      exact FinQ.mk' (.inr rfl) (rd_f (false, 0) false) rfl allP.nil (by
          have : ¬ (0 ≤ f) := by omega
          simp [rdI, hfo, this, encV0])
    · have hf1 : 0 ≤ f := by omega
      by_cases hf2 : f ≥ o.2.length
      · refine Ex.stepN noGT kAt_ok 99 39 0 1 (rd_c os id f k o) rfl (by ((repeat' refine allP.cons ?_ ?_) <;> first | exact allP.nil | assumption | rfl | (exact ⟨by omega, by assumption⟩) | (simp; done) | (simp; omega) | skip)) ?_
        exact FinQ.mk' (.inr rfl) (rd_f (false, 0) false) rfl allP.nil (by
            have : o.2[f.toNat]? = none := by simp; omega
            simp [rdI, hfo, this, encV0])
      · have hlt : f.toNat < o.2.length := by omega
        have hv : o.2[f.toNat]? = some o.2[f.toNat] := by simp [hlt]
        have hV : (o.2.map encV)[f.toNat]? = some (encV o.2[f.toNat]) := by simp [hv]
        refine Ex.stepN noGT kAt_ok 99 39 0 1 (rd_d os id f k o o.2[f.toNat]) rfl (by ((repeat' refine allP.cons ?_ ?_) <;> first | exact allP.nil | assumption | rfl | (exact ⟨by omega, by assumption⟩) | (simp; done) | (simp; omega) | skip)) ?_
        exact FinQ.mk' (.inr rfl) (rd_f o.2[f.toNat] true) rfl allP.nil (by simp [rdI, hfo, hf1, hv]; rfl)
def relRd : Rel := fun args v => ∃ os id f, SmO os ∧ args = [encH os, .int .i64 id, .int .i64 f] ∧ v = .tuple ⟨[encV ((rdI os id f).getD (false, 0)), .bool (rdI os id f).isSome]⟩
theorem relRd_ok : ∀ args v, relRd args v → FnEx Tryd.prog 42 args St0 (fun u _ => u = v) := by
  rintro args v ⟨os, id, f, h, rfl, rfl⟩
  exact rd_ok os id f h

end Go.Proofs.MA
