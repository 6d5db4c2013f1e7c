/- MachineApplies: the reference: Put, Write. Conditions: none. -/
import Derived.Test.YtpjfmjemmphheacDoorM1
set_option linter.all false
set_option linter.unusedVariables false
set_option linter.unusedSimpArgs false
namespace Go.Proofs.MA
open Go Go.Hx Go.RowKit Go.Proofs
set_option maxRecDepth 100000

/-! ### Put -/
def putF (l : List (Nat × Value)) : HF := mkF ([(2, .pointer (some ⟨0, 0, none⟩)), (3, .pointer (some ⟨1, 0, none⟩)), (4, .pointer (some ⟨2, 0, none⟩)), (5, .pointer (some ⟨3, 0, none⟩))] ++ l) 58
def putS (os : List O) (o : O) : St := mkSt [(0, .row false [encOs os] 35), (1, .row false [.int .i64 o.1, encFs o.2] 64), (2, .row false [.slice none 0 0] 35), (3, .row false [.slice none 0 0] 35)] 4 0
def putT (os : List O) (cs : List Value) (n : Nat) : St := mkSt [(0, .row false [encOs os] 35), (2, .row false [.slice none 0 0] 35), (3, .row false [.slice (some ⟨4, 0, none⟩) n (UNK + 2)] 35), (4, .row true cs 64)] 5 0

theorem pu_1 (os : List O) (o : O) (j : Int) : hrun Tryd.prog kAt 5 ((pcs Tryd.prog 22).take 5) St0 (entF [encH os, encO o] 58) [] [[.int .i64 j]] ⟨[(0, 0, false), (1, 1, false), (2, 2, false), (3, 3, false)], [], [2, 3, 4, 5, 6, 7, 14], 4, 0, false⟩ =
    some (HX.normal, [(0, HObj.row false [frz (List.map encO os)] 35), (1, HObj.row false [Value.int IntKind.i64 o.fst, frz (List.map encV o.snd)] 64), (2, HObj.row false [Value.slice none 0 0] 35), (3, HObj.row false [Value.slice none 0 0] 35)], [(2, Value.pointer (some { block := 0, off := 0 })), (3, Value.pointer (some { block := 1, off := 0 })), (4, Value.pointer (some { block := 2, off := 0 })), (5, Value.pointer (some { block := 3, off := 0 })), (6, Value.int IntKind.i64 j), (7, Value.int IntKind.i64 j), (14, Value.bool (decide (j < 0)))], [relAt [Value.agg { toList := [frz (List.map encO os)] }, Value.int IntKind.i64 o.fst] (Value.int IntKind.i64 j)]) := by kernel_rfl

theorem pu_1f (os : List O) (o : O) (j : Int) : hrun Tryd.prog kAt 5 ((pcs Tryd.prog 22).take 6) St0 (entF [encH os, encO o] 58) [false] [[.int .i64 j]] ⟨[(0, 0, false), (1, 1, false), (2, 2, false), (3, 3, false)], [], [2, 3, 4, 5, 6, 7], 4, 0, false⟩ =
    some (HX.normal, [(0, HObj.row false [frz (List.map encO os)] 35), (1, HObj.row false [Value.int IntKind.i64 o.fst, frz (List.map encV o.snd)] 64), (2, HObj.row false [Value.slice none 0 0] 35), (3, HObj.row false [Value.slice none 0 0] 35)], [(2, Value.pointer (some { block := 0, off := 0 })), (3, Value.pointer (some { block := 1, off := 0 })), (4, Value.pointer (some { block := 2, off := 0 })), (5, Value.pointer (some { block := 3, off := 0 })), (6, Value.int IntKind.i64 j), (7, Value.int IntKind.i64 j)], [decide (j < 0) = false, relAt [Value.agg { toList := [frz (List.map encO os)] }, Value.int IntKind.i64 o.fst] (Value.int IntKind.i64 j)]) := by kernel_rfl

theorem pu_2 (os : List O) (o : O) (j : Int) (b : Bool) : hrun Tryd.prog kAt 5 ((flatC (thenIn (nth (pcs Tryd.prog 22) 5))).take 1) (putS os o) (putF [(6, .int .i64 j), (7, .int .i64 j), (14, .bool b)]) [] [] ⟨[(0, 0, false), (1, 1, false), (2, 2, false), (3, 3, false)], [], [2, 3, 4, 5, 6, 7], 4, 0, false⟩ =
    some (HX.normal, [(0, HObj.row false [frz (List.map encO os)] 35), (1, HObj.row false [Value.int IntKind.i64 o.fst, frz (List.map encV o.snd)] 64), (2, HObj.row false [Value.slice none 0 0] 35), (3, HObj.row false [Value.slice none 0 0] 35)], [(2, Value.pointer (some { block := 0, off := 0 })), (3, Value.pointer (some { block := 1, off := 0 })), (4, Value.pointer (some { block := 2, off := 0 })), (5, Value.pointer (some { block := 3, off := 0 })), (6, Value.int IntKind.i64 j), (7, Value.int IntKind.i64 0)], []) := by kernel_rfl

theorem pu_r (os : List O) (o x : O) (j k : Int) : hrun Tryd.prog kAt 5 (flatC (loopIn (nth (flatC (thenIn (nth (pcs Tryd.prog 22) 5))) 1))) (putS os o) (putF [(6, .int .i64 j), (7, .int .i64 k)]) (List.replicate 11 true) [[encO x]] ⟨[(0, 0, false), (1, 1, false), (2, 2, false), (3, 3, false)], [], [2, 3, 4, 5, 6, 7], 4, 0, false⟩ =
    some (HX.normal, [(0, HObj.row false [frz (List.map encO os)] 35), (1, HObj.row false [Value.int IntKind.i64 o.fst, frz (List.map encV o.snd)] 64), (2, HObj.row false [Value.slice none 0 0] 35), (3, HObj.row false [Value.slice none 0 0] 35)], [(2, Value.pointer (some { block := 0, off := 0 })), (3, Value.pointer (some { block := 1, off := 0 })), (4, Value.pointer (some { block := 2, off := 0 })), (5, Value.pointer (some { block := 3, off := 0 })), (6, Value.int IntKind.i64 j), (7, Value.int IntKind.i64 (IntKind.wrap IntKind.i64 (k + 1)))], [decide (x.fst < o.fst) = true, decide (k < ↑(List.length (List.map encO os))) = true, (decide (k < ↑(List.length (List.map encO os))) == true) = true, (decide (k < ↑(List.length (List.map encO os))) == true) = true, (decide (k < ↑(List.length (List.map encO os))) == true) = true, (decide (k < ↑(List.length (List.map encO os))) == true) = true, (decide (k < ↑(List.length (List.map encO os))) == true) = true, 0 ≤ k ∧ (List.map encO os)[Int.toNat k]? = some (Value.agg { toList := [Value.int IntKind.i64 x.fst, frz (List.map encV x.snd)] }), (decide (k < ↑(List.length (List.map encO os))) == true) = true, (decide (k < ↑(List.length (List.map encO os))) == true) = true, (decide (k < ↑(List.length (List.map encO os))) == true) = true, (decide (k < ↑(List.length (List.map encO os))) == true) = true]) := by kernel_rfl

theorem pu_s (os : List O) (o x : O) (j k : Int) : hrun Tryd.prog kAt 5 (flatC (loopIn (nth (flatC (thenIn (nth (pcs Tryd.prog 22) 5))) 1))) (putS os o) (putF [(6, .int .i64 j), (7, .int .i64 k)]) (List.replicate 10 true ++ [false]) [[encO x]] ⟨[(0, 0, false), (1, 1, false), (2, 2, false), (3, 3, false)], [], [2, 3, 4, 5, 6, 7], 4, 0, false⟩ =
    some (HX.exit 0, [(0, HObj.row false [frz (List.map encO os)] 35), (1, HObj.row false [Value.int IntKind.i64 o.fst, frz (List.map encV o.snd)] 64), (2, HObj.row false [Value.slice none 0 0] 35), (3, HObj.row false [Value.slice none 0 0] 35)], [(2, Value.pointer (some { block := 0, off := 0 })), (3, Value.pointer (some { block := 1, off := 0 })), (4, Value.pointer (some { block := 2, off := 0 })), (5, Value.pointer (some { block := 3, off := 0 })), (6, Value.int IntKind.i64 j), (7, Value.int IntKind.i64 k)], [decide (x.fst < o.fst) = false, decide (k < ↑(List.length (List.map encO os))) = true, (decide (k < ↑(List.length (List.map encO os))) == true) = true, (decide (k < ↑(List.length (List.map encO os))) == true) = true, (decide (k < ↑(List.length (List.map encO os))) == true) = true, (decide (k < ↑(List.length (List.map encO os))) == true) = true, (decide (k < ↑(List.length (List.map encO os))) == true) = true, 0 ≤ k ∧ (List.map encO os)[Int.toNat k]? = some (Value.agg { toList := [Value.int IntKind.i64 x.fst, frz (List.map encV x.snd)] }), (decide (k < ↑(List.length (List.map encO os))) == true) = true, (decide (k < ↑(List.length (List.map encO os))) == true) = true, (decide (k < ↑(List.length (List.map encO os))) == true) = true, (decide (k < ↑(List.length (List.map encO os))) == true) = true]) := by kernel_rfl

theorem pu_x (os : List O) (o : O) (j k : Int) : hrun Tryd.prog kAt 5 (flatC (loopIn (nth (flatC (thenIn (nth (pcs Tryd.prog 22) 5))) 1))) (putS os o) (putF [(6, .int .i64 j), (7, .int .i64 k)]) (List.replicate 11 false) [] ⟨[(0, 0, false), (1, 1, false), (2, 2, false), (3, 3, false)], [], [2, 3, 4, 5, 6, 7], 4, 0, false⟩ =
    some (HX.exit 0, [(0, HObj.row false [frz (List.map encO os)] 35), (1, HObj.row false [Value.int IntKind.i64 o.fst, frz (List.map encV o.snd)] 64), (2, HObj.row false [Value.slice none 0 0] 35), (3, HObj.row false [Value.slice none 0 0] 35)], [(2, Value.pointer (some { block := 0, off := 0 })), (3, Value.pointer (some { block := 1, off := 0 })), (4, Value.pointer (some { block := 2, off := 0 })), (5, Value.pointer (some { block := 3, off := 0 })), (6, Value.int IntKind.i64 j), (7, Value.int IntKind.i64 k)], [false = false, decide (k < ↑(List.length (List.map encO os))) = false, (decide (k < ↑(List.length (List.map encO os))) == true) = false, (decide (k < ↑(List.length (List.map encO os))) == true) = false, (decide (k < ↑(List.length (List.map encO os))) == true) = false, (decide (k < ↑(List.length (List.map encO os))) == true) = false, (decide (k < ↑(List.length (List.map encO os))) == true) = false, (decide (k < ↑(List.length (List.map encO os))) == true) = false, (decide (k < ↑(List.length (List.map encO os))) == true) = false, (decide (k < ↑(List.length (List.map encO os))) == true) = false, (decide (k < ↑(List.length (List.map encO os))) == true) = false]) := by kernel_rfl

theorem pu_8a (os : List O) (o : O) (j k : Int) : hrun Tryd.prog kAt 5 (((pcs Tryd.prog 22).drop 6).take 1) (putS os o) (putF [(6, .int .i64 j), (7, .int .i64 k)]) [true, false] [[encO o]] ⟨[(0, 0, false), (2, 2, false), (3, 3, false), (5, 4, true)], [], [2, 4, 5, 6, 7], 5, 0, false⟩ =
    some (HX.normal, [(0, HObj.row false [frz (List.map encO os)] 35), (2, HObj.row false [Value.slice none 0 0] 35), (3, HObj.row false [Value.slice (some { block := 4, off := 0 }) 1 9223372036854775810] 35), (4, HObj.row true [Value.int IntKind.i64 o.fst, frz (List.map encV o.snd)] 64)], [(2, Value.pointer (some { block := 0, off := 0 })), (4, Value.pointer (some { block := 2, off := 0 })), (5, Value.pointer (some { block := 3, off := 0 })), (6, Value.int IntKind.i64 j), (7, Value.int IntKind.i64 k)], [(Nat.ble 32 140737488355328 && Nat.ble 1 4611686018427387904) = true, Nat.beq 1 0 = false, relOb [Value.agg { toList := [Value.int IntKind.i64 o.fst, frz (List.map encV o.snd)] }] (Value.agg { toList := [Value.int IntKind.i64 o.fst, frz (List.map encV o.snd)] }), Nat.beq (List.length (List.take (Int.toNat k - 0) (List.drop 0 (List.map encO os)))) 0 = true, (posO none && decide (0 ≤ k) && (Nat.ble (Int.toNat k) (List.length (List.map encO os)) && Nat.ble 0 (Int.toNat k))) = true ∧ (List.map encO os = [] ∨ ∀ (v : Value), v ∈ List.map encO os → Array.size (Value.cells v) = 2)]) := by kernel_rfl

theorem pu_8b (os : List O) (o : O) (j k : Int) : hrun Tryd.prog kAt 5 (((pcs Tryd.prog 22).drop 6).take 1) (putS os o) (putF [(6, .int .i64 j), (7, .int .i64 k)]) [false, false] [[encO o]] ⟨[(0, 0, false), (2, 2, false), (3, 3, false), (6, 4, true)], [], [2, 4, 5, 6, 7], 5, 0, false⟩ =
    some (HX.normal, [(0, HObj.row false [frz (List.map encO os)] 35), (2, HObj.row false [Value.slice none 0 0] 35), (3, HObj.row false [Value.slice (some { block := 4, off := 0 }) (List.length (List.take (Int.toNat k - 0) (List.drop 0 (List.map encO os))) + 1) 9223372036854775810] 35), (4, HObj.row true (flatV (List.take (Int.toNat k - 0) (List.drop 0 (List.map encO os))) ++ [Value.int IntKind.i64 o.fst, frz (List.map encV o.snd)]) 64)], [(2, Value.pointer (some { block := 0, off := 0 })), (4, Value.pointer (some { block := 2, off := 0 })), (5, Value.pointer (some { block := 3, off := 0 })), (6, Value.int IntKind.i64 j), (7, Value.int IntKind.i64 k)], [List.length (List.take (Int.toNat k - 0) (List.drop 0 (List.map encO os))) * 2 = List.length (flatV (List.take (Int.toNat k - 0) (List.drop 0 (List.map encO os)))), (Nat.ble ((List.length (List.take (Int.toNat k - 0) (List.drop 0 (List.map encO os))) + 1) * 32) 140737488355328 && Nat.ble (List.length (List.take (Int.toNat k - 0) (List.drop 0 (List.map encO os))) + 1) 4611686018427387904) = true, Nat.beq 1 0 = false, relOb [Value.agg { toList := [Value.int IntKind.i64 o.fst, frz (List.map encV o.snd)] }] (Value.agg { toList := [Value.int IntKind.i64 o.fst, frz (List.map encV o.snd)] }), (Nat.ble ((0 + List.length (List.take (Int.toNat k - 0) (List.drop 0 (List.map encO os)))) * 32) 140737488355328 && Nat.ble (0 + List.length (List.take (Int.toNat k - 0) (List.drop 0 (List.map encO os)))) 4611686018427387904) = true, ∀ (v : Value), v ∈ List.take (Int.toNat k - 0) (List.drop 0 (List.map encO os)) → Array.size (Value.cells v) = 2, Nat.beq (List.length (List.take (Int.toNat k - 0) (List.drop 0 (List.map encO os)))) 0 = false, (posO none && decide (0 ≤ k) && (Nat.ble (Int.toNat k) (List.length (List.map encO os)) && Nat.ble 0 (Int.toNat k))) = true ∧ (List.map encO os = [] ∨ ∀ (v : Value), v ∈ List.map encO os → Array.size (Value.cells v) = 2)]) := by kernel_rfl

def putG (l : List (Nat × Value)) : HF := mkF ([(2, .pointer (some ⟨0, 0, none⟩)), (4, .pointer (some ⟨2, 0, none⟩)), (5, .pointer (some ⟨3, 0, none⟩))] ++ l) 58

theorem pu_9t (os : List O) (cs : List Value) (n : Nat) (j k : Int) : hrun Tryd.prog kAt 5 (((pcs Tryd.prog 22).drop 7).take 2) (putT os cs n) (putG [(6, .int .i64 j), (7, .int .i64 k)]) [true] [] ⟨[(0, 0, false), (2, 2, false), (3, 3, false), (4, 4, true)], [], [2, 4, 5, 7], 5, 0, false⟩ =
    some (HX.normal, [(0, HObj.row false [frz (List.map encO os)] 35), (2, HObj.row false [Value.slice none 0 0] 35), (3, HObj.row false [Value.slice (some { block := 4, off := 0 }) n 9223372036854775810] 35), (4, HObj.row true cs 64)], [(2, Value.pointer (some { block := 0, off := 0 })), (4, Value.pointer (some { block := 2, off := 0 })), (5, Value.pointer (some { block := 3, off := 0 })), (7, Value.int IntKind.i64 (IntKind.wrap IntKind.i64 (k + 1)))], [decide (j ≥ 0) = true]) := by kernel_rfl

theorem pu_9f (os : List O) (cs : List Value) (n : Nat) (j k : Int) : hrun Tryd.prog kAt 5 (((pcs Tryd.prog 22).drop 7).take 2) (putT os cs n) (putG [(6, .int .i64 j), (7, .int .i64 k)]) [false] [] ⟨[(0, 0, false), (2, 2, false), (3, 3, false), (4, 4, true)], [], [2, 4, 5, 7], 5, 0, false⟩ =
    some (HX.normal, [(0, HObj.row false [frz (List.map encO os)] 35), (2, HObj.row false [Value.slice none 0 0] 35), (3, HObj.row false [Value.slice (some { block := 4, off := 0 }) n 9223372036854775810] 35), (4, HObj.row true cs 64)], [(2, Value.pointer (some { block := 0, off := 0 })), (4, Value.pointer (some { block := 2, off := 0 })), (5, Value.pointer (some { block := 3, off := 0 })), (7, Value.int IntKind.i64 k)], [decide (j ≥ 0) = false]) := by kernel_rfl

theorem pu_11a (os : List O) (cs : List Value) (n : Nat) (k : Int) : hrun Tryd.prog kAt 5 ((pcs Tryd.prog 22).drop 9) (putT os cs n) (putG [(7, .int .i64 k)]) [true] [] ⟨[(2, 0, false), (4, 1, true)], [], [4], 2, 0, false⟩ =
    some (HX.ret, [(0, HObj.row false [Value.slice (some { block := 1, off := 0 }) n 9223372036854775810] 35), (1, HObj.row true cs 64)], [(4, Value.pointer (some { block := 0, off := 0 }))], [Nat.beq (List.length (List.take (List.length (List.map encO os) - Option.getD (some (Int.toNat k)) 0) (List.drop (Option.getD (some (Int.toNat k)) 0) (List.map encO os)))) 0 = true, (posO (some k) && Nat.ble (Option.getD (Option.map Int.toNat (some k)) 0) (List.length (List.map encO os))) = true ∧ (List.map encO os = [] ∨ ∀ (v : Value), v ∈ List.map encO os → Array.size (Value.cells v) = 2)]) := by kernel_rfl

theorem pu_11b (os : List O) (cs : List Value) (n : Nat) (k : Int) : hrun Tryd.prog kAt 5 ((pcs Tryd.prog 22).drop 9) (putT os cs n) (putG [(7, .int .i64 k)]) [false] [] ⟨[(2, 0, false), (5, 1, true)], [], [4], 2, 0, false⟩ =
    some (HX.ret, [(0, HObj.row false [Value.slice (some { block := 1, off := 0 }) (n + List.length (List.take (List.length (List.map encO os) - Option.getD (some (Int.toNat k)) 0) (List.drop (Option.getD (some (Int.toNat k)) 0) (List.map encO os)))) 9223372036854775810] 35), (1, HObj.row true (cs ++ flatV (List.take (List.length (List.map encO os) - Option.getD (some (Int.toNat k)) 0) (List.drop (Option.getD (some (Int.toNat k)) 0) (List.map encO os)))) 64)], [(4, Value.pointer (some { block := 0, off := 0 }))], [n * 2 = List.length cs, (Nat.ble ((n + List.length (List.take (List.length (List.map encO os) - Option.getD (some (Int.toNat k)) 0) (List.drop (Option.getD (some (Int.toNat k)) 0) (List.map encO os)))) * 32) 140737488355328 && Nat.ble (n + List.length (List.take (List.length (List.map encO os) - Option.getD (some (Int.toNat k)) 0) (List.drop (Option.getD (some (Int.toNat k)) 0) (List.map encO os)))) 4611686018427387904) = true, ∀ (v : Value), v ∈ List.take (List.length (List.map encO os) - Option.getD (some (Int.toNat k)) 0) (List.drop (Option.getD (some (Int.toNat k)) 0) (List.map encO os)) → Array.size (Value.cells v) = 2, Nat.beq (List.length (List.take (List.length (List.map encO os) - Option.getD (some (Int.toNat k)) 0) (List.drop (Option.getD (some (Int.toNat k)) 0) (List.map encO os)))) 0 = false, (posO (some k) && Nat.ble (Option.getD (Option.map Int.toNat (some k)) 0) (List.length (List.map encO os))) = true ∧ (List.map encO os = [] ∨ ∀ (v : Value), v ∈ List.map encO os → Array.size (Value.cells v) = 2)]) := by kernel_rfl

theorem pu_f (os' : List O) (cs : List Value) (n : Nat) : hfin Tryd.prog Tryd.f22 (mkSt [(0, .row false [.slice (some ⟨1, 0, none⟩) n (UNK + 2)] 35), (1, .row true cs 64)] 2 0) (mkF [(4, .pointer (some ⟨0, 0, none⟩))] 58) [] ⟨[], [(1, 2, os'.map encO)], [], 0, 0, false⟩ =
    some (Value.agg { toList := [frz (List.map encO os')] }, [], [flatV (List.map encO os') = cs ∧ (∀ (v : Value), v ∈ List.map encO os' → Array.size (Value.cells v) = 2) ∧ 0 < 2, n = List.length (List.map encO os')]) := by kernel_rfl


theorem flatV_app (a b : List Value) : flatV (a ++ b) = flatV a ++ flatV b := by simp [flatV]
theorem flatV_O_len (l : List O) : (flatV (l.map encO)).length = l.length * 2 := by
  induction l with
  | nil => rfl
  | cons o l ih =>
    have : flatV ((o :: l).map encO) = [.int .i64 o.1, encFs o.2] ++ flatV (l.map encO) := rfl
    rw [this, List.length_append, ih]
    simp; omega
theorem pu_l5 : (pcs Tryd.prog 22).drop 5 = .cond (condOf (nth (pcs Tryd.prog 22) 5)) (thenIn (nth (pcs Tryd.prog 22) 5)) (elseIn (nth (pcs Tryd.prog 22) 5)) :: (pcs Tryd.prog 22).drop 6 := by kernel_rfl
theorem pu_lt : (flatC (thenIn (nth (pcs Tryd.prog 22) 5))).drop 1 = [.block 0 (.loop (loopIn (nth (flatC (thenIn (nth (pcs Tryd.prog 22) 5))) 1)))] := by kernel_rfl

theorem put_tail (os : List O) (o : O) (j : Int) (k : Nat) (hk : k ≤ os.length) (hj : 0 ≤ j → k + 1 ≤ os.length) (hl : SmO os) (hv : SmV o.2) :
    Ex Tryd.prog 0 ((pcs Tryd.prog 22).drop 6) (putS os o) (putF [(6, .int .i64 j), (7, .int .i64 k)])
      (FinQ Tryd.prog Tryd.f22 0 (fun u _ => u = encH (os.take k ++ o :: os.drop (if 0 ≤ j then k + 1 else k)))) := by
  have hO : relOb [encO o] (encO o) := ⟨o, hv, rfl, rfl⟩
  have hsz := hl.1
  have hl2 : (os.take k).length = k := by simp; omega
  have hall : ∀ l : List O, ∀ v ∈ l.map encO, v.cells.size = 2 := flatV_encO
  have step2 : Ex Tryd.prog 0 ((pcs Tryd.prog 22).drop 7) (putT os (flatV ((os.take k ++ [o]).map encO)) (k + 1)) (putG [(6, .int .i64 j), (7, .int .i64 k)])
      (FinQ Tryd.prog Tryd.f22 0 (fun u _ => u = encH (os.take k ++ o :: os.drop (if 0 ≤ j then k + 1 else k)))) := by
    have tail : ∀ k' : Nat, k' ≤ os.length → Ex Tryd.prog 0 ((pcs Tryd.prog 22).drop 9) (putT os (flatV ((os.take k ++ [o]).map encO)) (k + 1)) (putG [(7, .int .i64 k')])
        (FinQ Tryd.prog Tryd.f22 0 (fun u _ => u = encH (os.take k ++ o :: os.drop k'))) := by
      intro k' hk'
      have e : List.take (List.length (List.map encO os) - Option.getD (some (Int.toNat (k' : Int))) 0) (List.drop (Option.getD (some (Int.toNat (k' : Int))) 0) (List.map encO os)) = (os.drop k').map encO := by
        simp [List.map_drop]
        rw [List.take_of_length_le (by simp)]
      have hp : (posO (some (k' : Int)) && Nat.ble (Option.getD (some (Int.toNat (k' : Int))) 0) (List.length (List.map encO os))) = true ∧ (List.map encO os = [] ∨ ∀ (v : Value), v ∈ List.map encO os → Array.size (Value.cells v) = 2) := by
        refine ⟨?_, .inr (flatV_encO os)⟩
        simp [posO, hk']
      by_cases hd : os.drop k' = []
      · refine Ex.stepN noGT kAt_ok 99 58 0 2 (pu_11a os (flatV ((os.take k ++ [o]).map encO)) (k + 1) k') rfl ?_ ?_
        · rw [e]
          exact .cons (beqT (by rw [hd]; rfl)) (.cons hp .nil)
        · exact FinQ.mk' (.inr rfl) (pu_f (os.take k ++ [o]) _ _) rfl (.cons ⟨rfl, flatV_encO _, by omega⟩ (.cons (by rw [List.length_map, List.length_append, hl2]; rfl) .nil)) (by rw [hd]; rfl)
      · refine Ex.stepN noGT kAt_ok 99 58 0 2 (pu_11b os (flatV ((os.take k ++ [o]).map encO)) (k + 1) k') rfl ?_ ?_
        · rw [e]
          refine .cons ?_ (.cons ?_ (.cons (hall _) (.cons (beqF ?_) (.cons hp .nil))))
          · rw [flatV_O_len, List.length_append, hl2]; rfl
          · refine apOK ?_ ?_ <;> simp <;> omega
          · intro h9
            simp at h9
            exact hd (List.drop_eq_nil_of_le (by omega))
        · rw [e]
          exact FinQ.mk' (.inr rfl) (pu_f (os.take k ++ o :: os.drop k') _ _) rfl (.cons ⟨by rw [← flatV_app]; simp, flatV_encO _, by omega⟩ (.cons (by simp [hl2]; omega) .nil)) rfl
    by_cases h0 : 0 ≤ j
    · rw [if_pos h0]
      refine Ex.stepN noGT kAt_ok 2 58 0 5 (pu_9t os (flatV ((os.take k ++ [o]).map encO)) (k + 1) j k) rfl (.cons (by simpa using h0) .nil) ?_
      have : IntKind.wrap IntKind.i64 ((k : Int) + 1) = ((k + 1 : Nat) : Int) := by
        rw [IntWalk.i64_in _ (by omega)]; simp
      rw [this]
      exact tail (k + 1) (hj h0)
    · rw [if_neg h0]
      refine Ex.stepN noGT kAt_ok 2 58 0 5 (pu_9f os (flatV ((os.take k ++ [o]).map encO)) (k + 1) j k) rfl (.cons (by simpa using h0) .nil) ?_
      exact tail k hk
  have e : List.take (Int.toNat (k : Int) - 0) (List.drop 0 (List.map encO os)) = (os.take k).map encO := by simp [List.map_take]
  have hp : (posO none && decide (0 ≤ (k : Int)) && (Nat.ble (Int.toNat k) (List.length (List.map encO os)) && Nat.ble 0 (Int.toNat k))) = true ∧ (List.map encO os = [] ∨ ∀ (v : Value), v ∈ List.map encO os → Array.size (Value.cells v) = 2) := by
    refine ⟨?_, .inr (flatV_encO os)⟩
    simp [posO, hk]
  by_cases hk0 : k = 0
  · subst hk0
    refine Ex.stepN noGT kAt_ok 1 58 0 5 (pu_8a os o j 0) rfl ?_ step2
    refine .cons rfl (.cons rfl (.cons hO (.cons rfl (.cons hp .nil))))
  · have r := pu_8b os o j k
    rw [e] at r
    have hlm : ((os.take k).map encO).length = k := by rw [List.length_map, hl2]
    refine Ex.stepN noGT kAt_ok 1 58 0 5 r rfl ?_ ?_
    · rw [hlm]
      refine .cons ?_ (.cons ?_ (.cons rfl (.cons hO (.cons ?_ (.cons (hall _) (.cons (beqF hk0) (.cons hp .nil)))))))
      · rw [flatV_O_len, hl2]
      · refine apOK ?_ ?_ <;> omega
      · refine apOK ?_ ?_ <;> omega
    · rw [hlm]
      have h9 : flatV ((os.take k).map encO) ++ [Value.int IntKind.i64 o.1, encFs o.2] = flatV ((os.take k ++ [o]).map encO) := by rw [List.map_append, flatV_app]; rfl
      show Ex _ _ _ (putT os (flatV ((os.take k).map encO) ++ [Value.int IntKind.i64 o.1, encFs o.2]) (k + 1)) _ _
      rw [h9]
      exact step2

def leadO : List O → Int → Nat
  | [], _ => 0
  | x :: l, id => if x.1 < id then leadO l id + 1 else 0
theorem leadO_le : ∀ (l : List O) (id : Int), leadO l id ≤ l.length
  | [], _ => Nat.le_refl _
  | x :: l, id => by
    have := leadO_le l id
    simp only [leadO, List.length_cons]
    split <;> omega
def putO (os : List O) (o : O) : List O :=
  if 0 ≤ atI os o.1 0 then os.take (atI os o.1 0).toNat ++ o :: os.drop ((atI os o.1 0).toNat + 1) else os.take (leadO os o.1) ++ o :: os.drop (leadO os o.1)

theorem pu_ok (os : List O) (o : O) (hl : SmO os) (hv : SmV o.2) : FnEx Tryd.prog 22 [encH os, encO o] St0 (fun u _ => u = encH (putO os o)) := by
  refine FnEx.enter (n0 := 0) (fn := Tryd.f22) (c := bodyOf Tryd.prog 22) Tryd.func22 (by kernel_rfl) rfl rfl ?_
  show Ex _ _ (pcs Tryd.prog 22) _ _ _
  have hA : relAt [encH os, .int .i64 o.1] (.int .i64 (atI os o.1 0)) := ⟨os, o.1, hl, rfl, rfl⟩
  have hsz := hl.1
  unfold putO
  cases hfo : findO os o.1 with
  | some x =>
    obtain ⟨k, h1, h2, h3⟩ := atI_some os o.1 0 x hfo
    rw [Nat.zero_add] at h1
    have hlt : k < os.length := by
      rcases Nat.lt_or_ge k os.length with h | h
      · exact h
      · rw [List.getElem?_eq_none h] at h2; cases h2
    rw [h1] at hA ⊢
    rw [if_pos (by omega)]
    refine Ex.stepN noGT kAt_ok 6 58 0 4 (pu_1f os o k) rfl (.cons (by simp) (.cons hA .nil)) ?_
    have := put_tail os o k k (by omega) (fun _ => by omega) hl hv
    rw [if_pos (by omega)] at this
    exact this
  | none =>
    have h1 := atI_none os o.1 0 hfo
    rw [h1] at hA ⊢
    rw [if_neg (by omega)]
    refine Ex.stepN noGT kAt_ok 5 58 0 4 (pu_1 os o (-1)) rfl (.cons hA .nil) ?_
    rw [pu_l5]
    refine Ex.condT (b := true) rfl rfl ?_
    refine Ex.stepN noGT kAt_ok 1 58 0 4 (pu_2 os o (-1) true) rfl .nil ?_
    rw [List.drop_append_of_le_length (by decide +kernel), pu_lt]
    refine Ex.loop (fun m s f => ∃ p q, os = p ++ q ∧ q.length = m ∧ leadO os o.1 = p.length + leadO q o.1 ∧ s = putS os o ∧ f = putF [(6, .int .i64 (-1)), (7, .int .i64 p.length)]) ?_ ⟨[], os, rfl, rfl, by simp, rfl, rfl⟩
    have out : ∀ (p q : List O), os = p ++ q → leadO os o.1 = p.length → Ex Tryd.prog 0 ((pcs Tryd.prog 22).drop 6) (putS os o) (putF [(6, .int .i64 (-1)), (7, .int .i64 p.length)]) (FinQ Tryd.prog Tryd.f22 0 (fun u _ => u = encH (os.take (leadO os o.1) ++ o :: os.drop (leadO os o.1)))) := by
      intro p q hos hp
      have := put_tail os o (-1) p.length (by rw [hos]; simp) (fun h => by omega) hl hv
      rw [if_neg (by omega)] at this
      rw [hp]
      exact this
    rintro m s f ⟨p, q, hos, hm, hld, rfl, rfl⟩
    cases q with
    | nil =>
      refine Ex.stepN noGT kAt_ok 9 58 0 4 (pu_x os o (-1) p.length) rfl ?_ ?_
      · have : os.length = p.length := by rw [hos]; simp
        have h9 : decide ((p.length : Int) < (((os.map encO).length : Nat) : Int)) = false := by simp; omega
        ((repeat' refine allP.cons ?_ ?_) <;> first | exact allP.nil | assumption | rfl | (exact ⟨by omega, by assumption⟩) | (simp; done) | (simp; omega) | skip)
        all_goals (rw [h9]; rfl)
      · exact goOn.out (out p [] hos (by simpa [leadO] using hld))
    | cons x q =>
      have hk : os[p.length]? = some x := by rw [hos]; exact at_split p x q
      have hO : (os.map encO)[((p.length : Nat) : Int).toNat]? = some (encO x) := map_at hk
      have hlt : p.length < os.length := by rw [hos]; simp
      have h9 : decide ((p.length : Int) < (((os.map encO).length : Nat) : Int)) = true := by simp; omega
      by_cases hx : x.1 < o.1
      · refine Ex.stepN noGT kAt_ok 9 58 0 4 (pu_r os o x (-1) p.length) rfl ?_ ?_
        · ((repeat' refine allP.cons ?_ ?_) <;> first | exact allP.nil | assumption | rfl | (exact ⟨by omega, by assumption⟩) | (simp; done) | (simp; omega) | skip)
          all_goals (rw [h9]; rfl)
        · refine Ex.nil ⟨m - 1, by simp at hm; omega, p ++ [x], q, by simp [hos], by simp at hm; omega, by rw [hld]; simp [leadO, hx]; omega, rfl, ?_⟩
          have : IntKind.wrap IntKind.i64 ((p.length : Int) + 1) = ((p ++ [x]).length : Int) := by
            rw [IntWalk.i64_in _ (by omega)]; simp
          rw [this]
          rfl
      · refine Ex.stepN noGT kAt_ok 9 58 0 4 (pu_s os o x (-1) p.length) rfl ?_ ?_
        · ((repeat' refine allP.cons ?_ ?_) <;> first | exact allP.nil | assumption | rfl | (exact ⟨by omega, by assumption⟩) | (simp; done) | (simp; omega) | skip)
          all_goals (rw [h9]; rfl)
        · exact goOn.out (out p (x :: q) hos (by rw [hld]; simp [leadO, hx]))

def relPu : Rel := fun args v => ∃ os o, SmO os ∧ SmV o.2 ∧ args = [encH os, encO o] ∧ v = encH (putO os o)
theorem relPu_ok : ∀ args v, relPu args v → FnEx Tryd.prog 22 args St0 (fun u _ => u = v) := by
  rintro args v ⟨os, o, h, h', rfl, rfl⟩
  exact pu_ok os o h h'

end Go.Proofs.MA

namespace Go.Proofs.MA
open Go Go.Hx Go.RowKit Go.Proofs
set_option maxRecDepth 100000

def kWr0 : HCall := specK [(40, relAt), (42, relRd)]
theorem kWr0_ok : CallOK Tryd.prog kWr0 := specK_ok fun g rel hm args v h _ _ => by
  simp only [List.mem_cons, Prod.mk.injEq, List.mem_nil_iff, or_false] at hm
  rcases hm with ⟨rfl, rfl⟩ | ⟨rfl, rfl⟩
  · exact relAt_ok args v h
  · exact relRd_ok args v h
noncomputable def kWr : HCall := hcall Tryd.prog 5 kWr0 noD 2
theorem kWr_ok : CallOK Tryd.prog kWr := hcall_sound noGT 5 kWr0_ok noD_ok 2

/-! ### Write -/
theorem wr_a (os : List O) (id f : Int) (v w : V) : hrun Tryd.prog kWr 5 (pcs Tryd.prog 23) St0 (entF [encH os, .int .i64 id, .int .i64 f, encV v] 49) [true] [[.tuple ⟨[encV w, .bool false]⟩]] ⟨[(2, 0, false)], [], [8, 9], 1, 0, false⟩ =
    some (HX.ret, [(0, HObj.row false [Value.slice none 0 0] 35)], [(8, Value.pointer (some { block := 0, off := 0 })), (9, Value.bool false)], [(!false) = true, relRd [Value.agg { toList := [frz (List.map encO os)] }, Value.int IntKind.i64 id, Value.int IntKind.i64 f] (Value.tuple { toList := [Value.agg { toList := [Value.bool w.fst, Value.int IntKind.i64 w.snd] }, Value.bool false] })]) := by kernel_rfl

theorem wr_fa (u : Unit) : hfin Tryd.prog Tryd.f23 (mkSt [(0, .row false [.slice none 0 0] 35)] 1 0) (mkF [(8, .pointer (some ⟨0, 0, none⟩)), (9, .bool false)] 49) [] ⟨[], [], [], 0, 0, true⟩ =
    some (Value.tuple { toList := [Value.agg { toList := [frz ([])] }, Value.bool false] }, [], []) := by kernel_rfl

theorem wr_b (os : List O) (id f : Int) (v w : V) : hrun Tryd.prog kWr 5 ((pcs Tryd.prog 23).take 5) St0 (entF [encH os, .int .i64 id, .int .i64 f, encV v] 49) [false, false] [[.tuple ⟨[encV w, .bool true]⟩]] ⟨[(0, 0, false), (1, 1, false), (2, 2, false), (4, 3, true), (5, 4, false)], [], [1, 2, 4, 7, 8, 12], 5, 0, false⟩ =
    some (HX.normal, [(0, HObj.row false [frz (List.map encO os)] 35), (1, HObj.row false [Value.bool v.fst, Value.int IntKind.i64 v.snd] 24), (2, HObj.row false [Value.slice none 0 0] 35), (3, HObj.row true (flatV (List.map encO os)) 64), (4, HObj.row false [Value.slice (some { block := 3, off := 0 }) (List.length (List.map encO os)) 9223372036854775810] 35)], [(1, Value.int IntKind.i64 id), (2, Value.int IntKind.i64 f), (4, Value.pointer (some { block := 0, off := 0 })), (7, Value.pointer (some { block := 1, off := 0 })), (8, Value.pointer (some { block := 2, off := 0 })), (12, Value.pointer (some { block := 4, off := 0 }))], [(Nat.ble ((0 + List.length (List.map encO os)) * 32) 140737488355328 && Nat.ble (0 + List.length (List.map encO os)) 4611686018427387904) = true, ∀ (v : Value), v ∈ List.map encO os → Array.size (Value.cells v) = 2, Nat.beq (List.length (List.map encO os)) 0 = false, (!true) = false, relRd [Value.agg { toList := [frz (List.map encO os)] }, Value.int IntKind.i64 id, Value.int IntKind.i64 f] (Value.tuple { toList := [Value.agg { toList := [Value.bool w.fst, Value.int IntKind.i64 w.snd] }, Value.bool true] })]) := by kernel_rfl


def wrS (os : List O) (v : V) (l : List (Nat × HObj)) (n : Nat) : St := mkSt ([(0, .row false [encOs os] 35), (1, .row false [.bool v.1, .int .i64 v.2] 24), (2, .row false [.slice none 0 0] 35), (3, .row true (flatV (os.map encO)) 64), (4, .row false [.slice (some ⟨3, 0, none⟩) os.length (UNK + 2)] 35)] ++ l) n 0
def wrF (id f : Int) (l : List (Nat × Value)) : HF := mkF ([(1, .int .i64 id), (2, .int .i64 f), (4, .pointer (some ⟨0, 0, none⟩)), (7, .pointer (some ⟨1, 0, none⟩)), (8, .pointer (some ⟨2, 0, none⟩)), (12, .pointer (some ⟨4, 0, none⟩))] ++ l) 49

theorem wr_c (os : List O) (o : O) (id f j : Int) (v : V) : hrun Tryd.prog kWr 5 (((pcs Tryd.prog 23).drop 5).take 2) (wrS os v [] 5) (wrF id f []) [false] [[.int .i64 j], [encO o]] ⟨[(0, 0, false), (1, 1, false), (2, 2, false), (3, 3, true), (4, 4, false), (7, 5, true), (8, 6, false)], [], [1, 2, 4, 7, 8, 12, 13, 14], 7, 0, false⟩ =
    some (HX.normal, [(0, HObj.row false [frz (List.map encO os)] 35), (1, HObj.row false [Value.bool v.fst, Value.int IntKind.i64 v.snd] 24), (2, HObj.row false [Value.slice none 0 0] 35), (3, HObj.row true (flatV (List.map encO os)) 64), (4, HObj.row false [Value.slice (some { block := 3, off := 0 }) (List.length os) 9223372036854775810] 35), (5, HObj.row true (flatV (List.map encV o.snd)) 24), (6, HObj.row false [Value.int IntKind.i64 o.fst, Value.slice (some { block := 5, off := 0 }) (List.length (List.map encV o.snd)) 9223372036854775810] 64)], [(1, Value.int IntKind.i64 id), (2, Value.int IntKind.i64 f), (4, Value.pointer (some { block := 0, off := 0 })), (7, Value.pointer (some { block := 1, off := 0 })), (8, Value.pointer (some { block := 2, off := 0 })), (12, Value.pointer (some { block := 4, off := 0 })), (13, Value.int IntKind.i64 j), (14, Value.pointer (some { block := 6, off := 0 }))], [(Nat.ble ((0 + List.length (List.map encV o.snd)) * 16) 140737488355328 && Nat.ble (0 + List.length (List.map encV o.snd)) 4611686018427387904) = true, ∀ (v : Value), v ∈ List.map encV o.snd → Array.size (Value.cells v) = 2, Nat.beq (List.length (List.map encV o.snd)) 0 = false, 0 ≤ j ∧ (List.map encO os)[Int.toNat j]? = some (Value.agg { toList := [Value.int IntKind.i64 o.fst, frz (List.map encV o.snd)] }), relAt [Value.agg { toList := [frz (List.map encO os)] }, Value.int IntKind.i64 id] (Value.int IntKind.i64 j)]) := by kernel_rfl

theorem wr_d (os : List O) (cs : List Value) (n : Nat) (o : O) (id f j : Int) (v : V) (fs : List V) : hrun Tryd.prog kWr 5 (((pcs Tryd.prog 23).drop 7).take 1) (wrS os v [(5, .row true cs 24), (6, .row false [.int .i64 o.1, .slice (some ⟨5, 0, none⟩) n (UNK + 2)] 64)] 7) (wrF id f [(13, .int .i64 j), (14, .pointer (some ⟨6, 0, none⟩))]) [] [] ⟨[(0, 0, false), (1, 1, false), (2, 2, false), (3, 3, true), (4, 4, false), (6, 5, false)], [(5, 2, fs.map encV)], [1, 2, 4, 7, 8, 12, 13, 14], 6, 0, false⟩ =
    some (HX.normal, [(0, HObj.row false [frz (List.map encO os)] 35), (1, HObj.row false [Value.bool v.fst, Value.int IntKind.i64 v.snd] 24), (2, HObj.row false [Value.slice none 0 0] 35), (3, HObj.row true (flatV (List.map encO os)) 64), (4, HObj.row false [Value.slice (some { block := 3, off := 0 }) (List.length os) 9223372036854775810] 35), (5, HObj.row false [Value.int IntKind.i64 o.fst, frz (List.map encV fs)] 64)], [(1, Value.int IntKind.i64 id), (2, Value.int IntKind.i64 f), (4, Value.pointer (some { block := 0, off := 0 })), (7, Value.pointer (some { block := 1, off := 0 })), (8, Value.pointer (some { block := 2, off := 0 })), (12, Value.pointer (some { block := 4, off := 0 })), (13, Value.int IntKind.i64 j), (14, Value.pointer (some { block := 5, off := 0 }))], [0 + Int.toNat f * 2 + 2 ≤ List.length cs, (decide (0 ≤ f) && decide (f < ↑n)) = true, flatV (List.map encV fs) = List.take (0 + Int.toNat f * 2) cs ++ [Value.bool v.fst, Value.int IntKind.i64 v.snd] ++ List.drop (0 + Int.toNat f * 2 + 2) cs ∧ (∀ (v : Value), v ∈ List.map encV fs → Array.size (Value.cells v) = 2) ∧ 0 < 2, n = List.length (List.map encV fs)]) := by kernel_rfl

theorem wr_e (os : List O) (o : O) (id f j : Int) (v : V) : hrun Tryd.prog kWr 5 ((pcs Tryd.prog 23).drop 8) (wrS os v [(5, .row false [.int .i64 o.1, encFs o.2] 64)] 6) (wrF id f [(13, .int .i64 j), (14, .pointer (some ⟨5, 0, none⟩))]) [] [] ⟨[(2, 0, false), (3, 1, true)], [], [8, 9], 2, 0, false⟩ =
    some (HX.ret, [(0, HObj.row false [Value.slice (some { block := 1, off := 0 }) (List.length os) 9223372036854775810] 35), (1, HObj.row true (List.take (0 + Int.toNat j * 2) (flatV (List.map encO os)) ++ [Value.int IntKind.i64 o.fst, frz (List.map encV o.snd)] ++ List.drop (0 + Int.toNat j * 2 + 2) (flatV (List.map encO os))) 64)], [(8, Value.pointer (some { block := 0, off := 0 })), (9, Value.bool true)], [0 + Int.toNat j * 2 + 2 ≤ List.length (flatV (List.map encO os)), (decide (0 ≤ j) && decide (j < ↑(List.length os))) = true]) := by kernel_rfl

theorem wr_f (os : List O) (cs : List Value) (n : Nat) : hfin Tryd.prog Tryd.f23 (mkSt [(0, .row false [.slice (some ⟨1, 0, none⟩) n (UNK + 2)] 35), (1, .row true cs 64)] 2 0) (mkF [(8, .pointer (some ⟨0, 0, none⟩)), (9, .bool true)] 49) [] ⟨[], [(1, 2, os.map encO)], [], 0, 0, false⟩ =
    some (Value.tuple { toList := [Value.agg { toList := [frz (List.map encO os)] }, Value.bool true] }, [], [flatV (List.map encO os) = cs ∧ (∀ (v : Value), v ∈ List.map encO os → Array.size (Value.cells v) = 2) ∧ 0 < 2, n = List.length (List.map encO os)]) := by kernel_rfl


theorem flatV_V_len (l : List V) : (flatV (l.map encV)).length = l.length * 2 := by
  induction l with
  | nil => rfl
  | cons o l ih =>
    have : flatV ((o :: l).map encV) = [.bool o.1, .int .i64 o.2] ++ flatV (l.map encV) := rfl
    rw [this, List.length_append, ih]
    simp; omega
theorem flatV_set : ∀ (l : List Value) (_ : ∀ v ∈ l, v.cells.size = 2) (k : Nat) (_ : k < l.length) (x : Value), flatV (l.set k x) = (flatV l).take (0 + k * 2) ++ x.cells.toList ++ (flatV l).drop (0 + k * 2 + 2)
  | [], _, k, hk, _ => by simp at hk
  | y :: l, h, 0, _, x => by
    have hy : y.cells.toList.length = 2 := by simpa using h y (by simp)
    have e1 : flatV (y :: l) = y.cells.toList ++ flatV l := rfl
    have e2 : flatV ((y :: l).set 0 x) = x.cells.toList ++ flatV l := rfl
    rw [e1, e2, List.drop_append_of_le_length (by omega), List.drop_of_length_le (by omega)]
    simp
  | y :: l, h, k + 1, hk, x => by
    have hy : y.cells.toList.length = 2 := by simpa using h y (by simp)
    have e1 : flatV (y :: l) = y.cells.toList ++ flatV l := rfl
    have e2 : flatV ((y :: l).set (k + 1) x) = y.cells.toList ++ flatV (l.set k x) := rfl
    have ih := flatV_set l (fun v hv => h v (by simp [hv])) k (by simpa using hk) x
    have t1 : List.take (0 + (k + 1) * 2) y.cells.toList = y.cells.toList := List.take_of_length_le (by omega)
    have t2 : List.drop (0 + (k + 1) * 2 + 2) y.cells.toList = [] := List.drop_of_length_le (by omega)
    rw [e1, e2, ih, List.take_append, List.drop_append, hy, t1, t2]
    rw [show 0 + (k + 1) * 2 - 2 = 0 + k * 2 by omega, show 0 + (k + 1) * 2 + 2 - 2 = 0 + k * 2 + 2 by omega]
    simp

def wrO (os : List O) (id f : Int) (v : V) : List O := match findO os id with
  | some o => os.set (atI os id 0).toNat (o.1, o.2.set f.toNat v)
  | none => os
def wrV (os : List O) (id f : Int) (v : V) : Value := .tuple ⟨[encH (if (rdI os id f).isSome then wrO os id f v else []), .bool (rdI os id f).isSome]⟩

theorem wr_ok (os : List O) (id f : Int) (v : V) (hl : SmO os) : FnEx Tryd.prog 23 [encH os, .int .i64 id, .int .i64 f, encV v] St0 (fun u _ => u = wrV os id f v) := by
  refine FnEx.enter (n0 := 0) (fn := Tryd.f23) (c := bodyOf Tryd.prog 23) Tryd.func23 (by kernel_rfl) rfl rfl ?_
  show Ex _ _ (pcs Tryd.prog 23) _ _ _
  have hsz := hl.1
  have hR : relRd [encH os, .int .i64 id, .int .i64 f] (.tuple ⟨[encV ((rdI os id f).getD (false, 0)), .bool (rdI os id f).isSome]⟩) := ⟨os, id, f, hl, rfl, rfl⟩
  unfold wrV
  cases hr : rdI os id f with
  | none =>
    rw [hr] at hR
    refine Ex.stepN noGT kWr_ok 99 49 0 1 (wr_a os id f v (false, 0)) rfl (.cons rfl (.cons hR .nil)) ?_
    exact FinQ.mk' (.inr rfl) (wr_fa ()) rfl .nil rfl
  | some w =>
    rw [hr] at hR
    obtain ⟨o, hfo, hf0, hf1⟩ : ∃ o, findO os id = some o ∧ 0 ≤ f ∧ o.2[f.toNat]? = some w := by
      unfold rdI at hr
      cases hfo : findO os id with
      | none => rw [hfo] at hr; cases hr
      | some o =>
        rw [hfo] at hr
        simp only [Option.bind_some] at hr
        by_cases h0 : 0 ≤ f
        · rw [if_pos h0] at hr; exact ⟨o, rfl, h0, hr⟩
        · rw [if_neg h0] at hr; cases hr
    obtain ⟨k, h1, h2, h3⟩ := atI_some os id 0 o hfo
    rw [Nat.zero_add] at h1
    have hA : relAt [encH os, .int .i64 id] (.int .i64 (k : Int)) := ⟨os, id, hl, rfl, by rw [h1]⟩
    have hlt : k < os.length := by
      rcases Nat.lt_or_ge k os.length with h | h
      · exact h
      · rw [List.getElem?_eq_none h] at h2; cases h2
    have hfl : f.toNat < o.2.length := by
      rcases Nat.lt_or_ge f.toNat o.2.length with h | h
      · exact h
      · rw [List.getElem?_eq_none h] at hf1; cases hf1
    have hmem : o ∈ os := List.mem_of_getElem? h2
    have hov : o.2.length * 16 ≤ 140737488355328 := hl.2 o hmem
    have hO : (os.map encO)[((k : Nat) : Int).toNat]? = some (encO o) := map_at h2
    have hen : (List.map encO os).length = os.length := List.length_map ..
    have hfn : (List.map encV o.2).length = o.2.length := List.length_map ..
    refine Ex.stepN noGT kWr_ok 5 49 0 5 (wr_b os id f v w) rfl ?_ ?_
    · rw [hen]
      exact .cons (apOK (by omega) (by omega)) (.cons (flatV_encO os) (.cons (beqF (by omega)) (.cons rfl (.cons hR .nil))))
    rw [hen]
    refine Ex.stepN noGT kWr_ok 2 49 0 7 (wr_c os o id f k v) rfl ?_ ?_
    · rw [hfn]
      exact .cons (apOK (by omega) (by omega)) (.cons (flatV_encV o.2) (.cons (beqF (by omega)) (.cons ⟨by omega, hO⟩ (.cons hA .nil))))
    rw [hfn]
    have hset : flatV ((o.2.set f.toNat v).map encV) = List.take (0 + Int.toNat f * 2) (flatV (o.2.map encV)) ++ [Value.bool v.1, Value.int IntKind.i64 v.2] ++ List.drop (0 + Int.toNat f * 2 + 2) (flatV (o.2.map encV)) := by
      rw [List.map_set]
      exact flatV_set _ (flatV_encV _) _ (by simpa using hfl) _
    have flen : (flatV (o.2.map encV)).length = o.2.length * 2 := flatV_V_len _
    refine Ex.stepN noGT kWr_ok 1 49 0 6 (wr_d os (flatV (o.2.map encV)) o.2.length o id f k v (o.2.set f.toNat v)) rfl ?_ ?_
    · refine .cons ?_ (.cons ?_ (.cons ⟨hset, flatV_encV _, by omega⟩ (.cons (by simp) .nil)))
      · rw [flen]; show 0 + f.toNat * 2 + 2 ≤ _; omega
      · simp; omega
    refine Ex.stepN noGT kWr_ok 99 49 0 2 (wr_e os (o.1, o.2.set f.toNat v) id f k v) rfl ?_ ?_
    · refine .cons ?_ (.cons ?_ .nil)
      · rw [flatV_O_len]; show 0 + (k : Int).toNat * 2 + 2 ≤ _; omega
      · simp; omega
    have hset2 : flatV ((os.set k (o.1, o.2.set f.toNat v)).map encO) = List.take (0 + Int.toNat (k : Int) * 2) (flatV (os.map encO)) ++ [Value.int IntKind.i64 o.1, encFs (o.2.set f.toNat v)] ++ List.drop (0 + Int.toNat (k : Int) * 2 + 2) (flatV (os.map encO)) := by
      rw [List.map_set]
      exact flatV_set _ (flatV_encO _) _ (by simpa using hlt) _
    refine FinQ.mk' (.inr rfl) (wr_f (os.set k (o.1, o.2.set f.toNat v)) _ _) rfl (.cons ⟨hset2, flatV_encO _, by omega⟩ (.cons (by simp) .nil)) ?_
    have : wrO os id f v = os.set k (o.1, o.2.set f.toNat v) := by
      unfold wrO
      rw [hfo, h1]
      rfl
    show _ = Value.tuple ⟨[encH (wrO os id f v), .bool true]⟩
    rw [this]
    rfl

def relWr : Rel := fun args u => ∃ os id f v, SmO os ∧ args = [encH os, .int .i64 id, .int .i64 f, encV v] ∧ u = wrV os id f v
theorem relWr_ok : ∀ args v, relWr args v → FnEx Tryd.prog 23 args St0 (fun u _ => u = v) := by
  rintro args u ⟨os, id, f, v, h, rfl, rfl⟩
  exact wr_ok os id f v h

end Go.Proofs.MA
