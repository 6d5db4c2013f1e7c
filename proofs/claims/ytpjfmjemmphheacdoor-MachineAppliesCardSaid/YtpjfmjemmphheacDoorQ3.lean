/- MachineApplies: Heap of the generator. Conditions: none. -/
import Derived.Test.YtpjfmjemmphheacDoorQ2
import Derived.Test.YtpjfmjemmphheacDoorE8
import Derived.Test.YtpjfmjemmphheacDoorP2
set_option linter.all false
set_option linter.unusedVariables false
set_option linter.unusedSimpArgs false
namespace Go.Proofs.MA
open Go Go.Hx Go.RowKit Go.Proofs
set_option maxRecDepth 100000

def gBase (us : List Int) (a : Int) (ov : Value) (ol : List (Nat × HObj)) (n : Nat) : St := mkSt ([(0, .row false (dice us a) 67), (1, .row false [.slice none 0 0] 35), (2, .row false [ov] 35)] ++ ol) n 0
def gOv (n : Nat) : Value := .slice (some ⟨3, 0, none⟩) n (UNK + 2)
def gOl (os : List O) : Nat × HObj := (3, .row true (flatV (os.map encO)) 64)
def gFv (n : Nat) : Value := .slice (some ⟨5, 0, none⟩) n (UNK + 2)
def gFl (fs : List V) : Nat × HObj := (5, .row true (flatV (fs.map encV)) 24)
def gOb (id : Int) (fv : Value) : Nat × HObj := (4, .row false [.int .i64 id, fv] 64)
def gF (id n i : Int) (l : List (Nat × Value)) : HF := mkF ([(0, .pointer (some ⟨0, 0, none⟩)), (2, .pointer (some ⟨1, 0, none⟩)), (3, .pointer (some ⟨2, 0, none⟩)), (4, .int .i64 id), (5, .int .i64 n), (6, .int .i64 i)] ++ l) 43
noncomputable def gBody : List Code := flatC (loopIn (nth (pcs Tryd.prog 5) 5))
noncomputable def gIn : List Code := flatC (blockIn (nth gBody 2))
noncomputable def gBody2 : List Code := flatC (loopIn (nth gIn 3))

theorem gp_0 (us : List Int) (a r a1 : Int) : hrun Tryd.prog kVl 5 ((pcs Tryd.prog 5).take 5) (oneS (dice us a) 67) (entF [.pointer (some ⟨0, 0, none⟩)] 43) [] [[.int .i64 r, encU us, .int .i64 a1]] ⟨[(0, 0, false), (1, 1, false), (2, 2, false)], [], [0, 2, 3, 4, 5, 6], 4, 1, false⟩ =
    some (HX.normal, [(0, HObj.row false [frz (List.map (fun n => Value.int IntKind.u8 n) us), Value.int IntKind.i64 a1] 67), (1, HObj.row false [Value.slice none 0 0] 35), (2, HObj.row false [Value.slice none 0 0] 35)], [(0, Value.pointer (some { block := 0, off := 0 })), (2, Value.pointer (some { block := 1, off := 0 })), (3, Value.pointer (some { block := 2, off := 0 })), (4, Value.int IntKind.i64 0), (5, Value.int IntKind.i64 r), (6, Value.int IntKind.i64 0)], [relPk [frz (List.map (fun n => Value.int IntKind.u8 n) us), Value.int IntKind.i64 a] [Value.int IntKind.i64 6] (Value.int IntKind.i64 r) [frz (List.map (fun n => Value.int IntKind.u8 n) us), Value.int IntKind.i64 a1]]) := by kernel_rfl

theorem gp_tn (us : List Int) (a : Int) (os : List O) (id n i : Int) : hrun Tryd.prog kVl 5 (gBody.take 2) (gBase us a (.slice none 0 0) [] 4) (gF id n i []) [true] [] ⟨[(0, 0, false), (1, 1, false), (2, 2, false)], [], [0, 2, 3, 4, 5, 6], 4, 1, false⟩ =
    some (HX.normal, [(0, HObj.row false [frz (List.map (fun n => Value.int IntKind.u8 n) us), Value.int IntKind.i64 a] 67), (1, HObj.row false [Value.slice none 0 0] 35), (2, HObj.row false [Value.slice none 0 0] 35)], [(0, Value.pointer (some { block := 0, off := 0 })), (2, Value.pointer (some { block := 1, off := 0 })), (3, Value.pointer (some { block := 2, off := 0 })), (4, Value.int IntKind.i64 id), (5, Value.int IntKind.i64 n), (6, Value.int IntKind.i64 i)], [decide (i < n) = true]) := by kernel_rfl

theorem gp_xn (us : List Int) (a : Int) (os : List O) (id n i : Int) : hrun Tryd.prog kVl 5 gBody (gBase us a (.slice none 0 0) [] 4) (gF id n i []) [false] [] ⟨[(0, 0, false), (1, 1, false), (2, 2, false)], [], [2, 3], 4, 1, false⟩ =
    some (HX.exit 0, [(0, HObj.row false [frz (List.map (fun n => Value.int IntKind.u8 n) us), Value.int IntKind.i64 a] 67), (1, HObj.row false [Value.slice none 0 0] 35), (2, HObj.row false [Value.slice none 0 0] 35)], [(2, Value.pointer (some { block := 1, off := 0 })), (3, Value.pointer (some { block := 2, off := 0 }))], [decide (i < n) = false]) := by kernel_rfl

theorem gp_on (us : List Int) (a : Int) (os : List O) (id n i : Int) (r3 r4 a3 a4 : Int) : hrun Tryd.prog kVl 5 (gIn.take 3) (gBase us a (.slice none 0 0) [] 4) (gF id n i []) [] [[.int .i64 r3, encU us, .int .i64 a3], [.int .i64 r4, encU us, .int .i64 a4]] ⟨[(0, 0, false), (1, 1, false), (2, 2, false), (4, 4, false)], [], [0, 2, 3, 4, 5, 6, 7, 8], 6, 1, false⟩ =
    some (HX.normal, [(0, HObj.row false [frz (List.map (fun n => Value.int IntKind.u8 n) us), Value.int IntKind.i64 a4] 67), (1, HObj.row false [Value.slice none 0 0] 35), (2, HObj.row false [Value.slice none 0 0] 35), (4, HObj.row false [Value.int IntKind.i64 (IntKind.wrap IntKind.i64 (id + IntKind.wrap IntKind.i64 (1 + r3))), Value.slice none 0 0] 64)], [(0, Value.pointer (some { block := 0, off := 0 })), (2, Value.pointer (some { block := 1, off := 0 })), (3, Value.pointer (some { block := 2, off := 0 })), (4, Value.int IntKind.i64 (IntKind.wrap IntKind.i64 (id + IntKind.wrap IntKind.i64 (1 + r3)))), (5, Value.int IntKind.i64 n), (6, Value.int IntKind.i64 i), (7, Value.pointer (some { block := 4, off := 0 })), (8, Value.int IntKind.i64 r4)], [relPk [frz (List.map (fun n => Value.int IntKind.u8 n) us), Value.int IntKind.i64 a3] [Value.int IntKind.i64 4] (Value.int IntKind.i64 r4) [frz (List.map (fun n => Value.int IntKind.u8 n) us), Value.int IntKind.i64 a4], relPk [frz (List.map (fun n => Value.int IntKind.u8 n) us), Value.int IntKind.i64 a] [Value.int IntKind.i64 3] (Value.int IntKind.i64 r3) [frz (List.map (fun n => Value.int IntKind.u8 n) us), Value.int IntKind.i64 a3]]) := by kernel_rfl

theorem gp_en (us : List Int) (a : Int) (os : List O) (id n i : Int) : hrun Tryd.prog kVl 5 ((pcs Tryd.prog 5).drop 6) (gBase us a (.slice none 0 0) [] 4) (mkF [(2, .pointer (some ⟨1, 0, none⟩)), (3, .pointer (some ⟨2, 0, none⟩))] 43) [] [] ⟨[(0, 0, false), (1, 1, false)], [], [2], 4, 1, false⟩ =
    some (HX.ret, [(0, HObj.row false [frz (List.map (fun n => Value.int IntKind.u8 n) us), Value.int IntKind.i64 a] 67), (1, HObj.row false [Value.slice none 0 0] 35)], [(2, Value.pointer (some { block := 1, off := 0 }))], []) := by kernel_rfl

theorem gp_fn (us : List Int) (a : Int) (os : List O) : hfin Tryd.prog Tryd.f5 (mkSt [(0, .row false (dice us a) 67), (1, .row false [.slice none 0 0] 35)] 4 0) (mkF [(2, .pointer (some ⟨1, 0, none⟩))] 43) [] ⟨[(0, 0, false)], [], [], 1, 1, true⟩ =
    some (Value.agg { toList := [frz ([])] }, [(0, HObj.row false [frz (List.map (fun n => Value.int IntKind.u8 n) us), Value.int IntKind.i64 a] 67)], []) := by kernel_rfl

theorem gp_ynn (us : List Int) (a : Int) (os : List O) (id n i : Int) (fs : List V) (oid k : Int) : hrun Tryd.prog kVl 5 gBody2 (gBase us a (.slice none 0 0) [gOb oid (.slice none 0 0)] 6) (gF id n i [(7, .pointer (some ⟨4, 0, none⟩)), (8, .int .i64 k)]) [false] [] ⟨[(0, 0, false), (1, 1, false), (2, 2, false), (4, 4, false)], [], [0, 2, 3, 4, 5, 6, 7], 6, 1, false⟩ =
    some (HX.exit 2, [(0, HObj.row false [frz (List.map (fun n => Value.int IntKind.u8 n) us), Value.int IntKind.i64 a] 67), (1, HObj.row false [Value.slice none 0 0] 35), (2, HObj.row false [Value.slice none 0 0] 35), (4, HObj.row false [Value.int IntKind.i64 oid, Value.slice none 0 0] 64)], [(0, Value.pointer (some { block := 0, off := 0 })), (2, Value.pointer (some { block := 1, off := 0 })), (3, Value.pointer (some { block := 2, off := 0 })), (4, Value.int IntKind.i64 id), (5, Value.int IntKind.i64 n), (6, Value.int IntKind.i64 i), (7, Value.pointer (some { block := 4, off := 0 }))], [decide (k > 0) = false]) := by kernel_rfl

theorem gp_rnn (us : List Int) (a : Int) (os : List O) (id n i : Int) (fs : List V) (oid k : Int) (v : V) (a2 : Int) : hrun Tryd.prog kVl 5 gBody2 (gBase us a (.slice none 0 0) [gOb oid (.slice none 0 0)] 6) (gF id n i [(7, .pointer (some ⟨4, 0, none⟩)), (8, .int .i64 k)]) [true, false] [[encV v, encU us, .int .i64 a2]] ⟨[(0, 0, false), (1, 1, false), (2, 2, false), (4, 4, false), (7, 5, true)], [], [0, 2, 3, 4, 5, 6, 7, 8], 6, 1, false⟩ =
    some (HX.normal, [(0, HObj.row false [frz (List.map (fun n => Value.int IntKind.u8 n) us), Value.int IntKind.i64 a2] 67), (1, HObj.row false [Value.slice none 0 0] 35), (2, HObj.row false [Value.slice none 0 0] 35), (4, HObj.row false [Value.int IntKind.i64 oid, Value.slice (some { block := 5, off := 0 }) 1 9223372036854775810] 64), (5, HObj.row true [Value.bool v.fst, Value.int IntKind.i64 v.snd] 24)], [(0, Value.pointer (some { block := 0, off := 0 })), (2, Value.pointer (some { block := 1, off := 0 })), (3, Value.pointer (some { block := 2, off := 0 })), (4, Value.int IntKind.i64 id), (5, Value.int IntKind.i64 n), (6, Value.int IntKind.i64 i), (7, Value.pointer (some { block := 4, off := 0 })), (8, Value.int IntKind.i64 (IntKind.wrap IntKind.i64 (k - 1)))], [(Nat.ble 16 140737488355328 && Nat.ble 1 4611686018427387904) = true, Nat.beq 1 0 = false, relVl [frz (List.map (fun n => Value.int IntKind.u8 n) us), Value.int IntKind.i64 a] [] (Value.agg { toList := [Value.bool v.fst, Value.int IntKind.i64 v.snd] }) [frz (List.map (fun n => Value.int IntKind.u8 n) us), Value.int IntKind.i64 a2], decide (k > 0) = true]) := by kernel_rfl


theorem gp_ync (us : List Int) (a : Int) (os : List O) (id n i : Int) (fs : List V) (oid k : Int) : hrun Tryd.prog kVl 5 gBody2 (gBase us a (.slice none 0 0) [gOb oid (gFv fs.length), gFl fs] 6) (gF id n i [(7, .pointer (some ⟨4, 0, none⟩)), (8, .int .i64 k)]) [false] [] ⟨[(0, 0, false), (1, 1, false), (2, 2, false), (4, 4, false)], [(5, 2, fs.map encV)], [0, 2, 3, 4, 5, 6, 7], 6, 1, false⟩ =
    some (HX.exit 2, [(0, HObj.row false [frz (List.map (fun n => Value.int IntKind.u8 n) us), Value.int IntKind.i64 a] 67), (1, HObj.row false [Value.slice none 0 0] 35), (2, HObj.row false [Value.slice none 0 0] 35), (4, HObj.row false [Value.int IntKind.i64 oid, frz (List.map encV fs)] 64)], [(0, Value.pointer (some { block := 0, off := 0 })), (2, Value.pointer (some { block := 1, off := 0 })), (3, Value.pointer (some { block := 2, off := 0 })), (4, Value.int IntKind.i64 id), (5, Value.int IntKind.i64 n), (6, Value.int IntKind.i64 i), (7, Value.pointer (some { block := 4, off := 0 }))], [decide (k > 0) = false, flatV (List.map encV fs) = flatV (List.map encV fs) ∧ (∀ (v : Value), v ∈ List.map encV fs → Array.size (Value.cells v) = 2) ∧ 0 < 2, List.length fs = List.length (List.map encV fs)]) := by kernel_rfl

theorem gp_rnc (us : List Int) (a : Int) (os : List O) (id n i : Int) (fs : List V) (oid k : Int) (v : V) (a2 : Int) : hrun Tryd.prog kVl 5 gBody2 (gBase us a (.slice none 0 0) [gOb oid (gFv fs.length), gFl fs] 6) (gF id n i [(7, .pointer (some ⟨4, 0, none⟩)), (8, .int .i64 k)]) [true, false] [[encV v, encU us, .int .i64 a2]] ⟨[(0, 0, false), (1, 1, false), (2, 2, false), (4, 4, false), (7, 5, true)], [], [0, 2, 3, 4, 5, 6, 7, 8], 6, 1, false⟩ =
    some (HX.normal, [(0, HObj.row false [frz (List.map (fun n => Value.int IntKind.u8 n) us), Value.int IntKind.i64 a2] 67), (1, HObj.row false [Value.slice none 0 0] 35), (2, HObj.row false [Value.slice none 0 0] 35), (4, HObj.row false [Value.int IntKind.i64 oid, Value.slice (some { block := 5, off := 0 }) (List.length fs + 1) 9223372036854775810] 64), (5, HObj.row true (flatV (List.map encV fs) ++ [Value.bool v.fst, Value.int IntKind.i64 v.snd]) 24)], [(0, Value.pointer (some { block := 0, off := 0 })), (2, Value.pointer (some { block := 1, off := 0 })), (3, Value.pointer (some { block := 2, off := 0 })), (4, Value.int IntKind.i64 id), (5, Value.int IntKind.i64 n), (6, Value.int IntKind.i64 i), (7, Value.pointer (some { block := 4, off := 0 })), (8, Value.int IntKind.i64 (IntKind.wrap IntKind.i64 (k - 1)))], [List.length fs * 2 = List.length (flatV (List.map encV fs)), (Nat.ble ((List.length fs + 1) * 16) 140737488355328 && Nat.ble (List.length fs + 1) 4611686018427387904) = true, Nat.beq 1 0 = false, relVl [frz (List.map (fun n => Value.int IntKind.u8 n) us), Value.int IntKind.i64 a] [] (Value.agg { toList := [Value.bool v.fst, Value.int IntKind.i64 v.snd] }) [frz (List.map (fun n => Value.int IntKind.u8 n) us), Value.int IntKind.i64 a2], decide (k > 0) = true]) := by kernel_rfl


theorem gp_tc (us : List Int) (a : Int) (os : List O) (id n i : Int) : hrun Tryd.prog kVl 5 (gBody.take 2) (gBase us a (gOv os.length) [gOl os] 4) (gF id n i []) [true] [] ⟨[(0, 0, false), (1, 1, false), (2, 2, false), (3, 3, true)], [], [0, 2, 3, 4, 5, 6], 4, 1, false⟩ =
    some (HX.normal, [(0, HObj.row false [frz (List.map (fun n => Value.int IntKind.u8 n) us), Value.int IntKind.i64 a] 67), (1, HObj.row false [Value.slice none 0 0] 35), (2, HObj.row false [Value.slice (some { block := 3, off := 0 }) (List.length os) 9223372036854775810] 35), (3, HObj.row true (flatV (List.map encO os)) 64)], [(0, Value.pointer (some { block := 0, off := 0 })), (2, Value.pointer (some { block := 1, off := 0 })), (3, Value.pointer (some { block := 2, off := 0 })), (4, Value.int IntKind.i64 id), (5, Value.int IntKind.i64 n), (6, Value.int IntKind.i64 i)], [decide (i < n) = true]) := by kernel_rfl

theorem gp_xc (us : List Int) (a : Int) (os : List O) (id n i : Int) : hrun Tryd.prog kVl 5 gBody (gBase us a (gOv os.length) [gOl os] 4) (gF id n i []) [false] [] ⟨[(0, 0, false), (1, 1, false), (2, 2, false), (3, 3, true)], [], [2, 3], 4, 1, false⟩ =
    some (HX.exit 0, [(0, HObj.row false [frz (List.map (fun n => Value.int IntKind.u8 n) us), Value.int IntKind.i64 a] 67), (1, HObj.row false [Value.slice none 0 0] 35), (2, HObj.row false [Value.slice (some { block := 3, off := 0 }) (List.length os) 9223372036854775810] 35), (3, HObj.row true (flatV (List.map encO os)) 64)], [(2, Value.pointer (some { block := 1, off := 0 })), (3, Value.pointer (some { block := 2, off := 0 }))], [decide (i < n) = false]) := by kernel_rfl

theorem gp_oc (us : List Int) (a : Int) (os : List O) (id n i : Int) (r3 r4 a3 a4 : Int) : hrun Tryd.prog kVl 5 (gIn.take 3) (gBase us a (gOv os.length) [gOl os] 4) (gF id n i []) [] [[.int .i64 r3, encU us, .int .i64 a3], [.int .i64 r4, encU us, .int .i64 a4]] ⟨[(0, 0, false), (1, 1, false), (2, 2, false), (3, 3, true), (4, 4, false)], [], [0, 2, 3, 4, 5, 6, 7, 8], 6, 1, false⟩ =
    some (HX.normal, [(0, HObj.row false [frz (List.map (fun n => Value.int IntKind.u8 n) us), Value.int IntKind.i64 a4] 67), (1, HObj.row false [Value.slice none 0 0] 35), (2, HObj.row false [Value.slice (some { block := 3, off := 0 }) (List.length os) 9223372036854775810] 35), (3, HObj.row true (flatV (List.map encO os)) 64), (4, HObj.row false [Value.int IntKind.i64 (IntKind.wrap IntKind.i64 (id + IntKind.wrap IntKind.i64 (1 + r3))), Value.slice none 0 0] 64)], [(0, Value.pointer (some { block := 0, off := 0 })), (2, Value.pointer (some { block := 1, off := 0 })), (3, Value.pointer (some { block := 2, off := 0 })), (4, Value.int IntKind.i64 (IntKind.wrap IntKind.i64 (id + IntKind.wrap IntKind.i64 (1 + r3)))), (5, Value.int IntKind.i64 n), (6, Value.int IntKind.i64 i), (7, Value.pointer (some { block := 4, off := 0 })), (8, Value.int IntKind.i64 r4)], [relPk [frz (List.map (fun n => Value.int IntKind.u8 n) us), Value.int IntKind.i64 a3] [Value.int IntKind.i64 4] (Value.int IntKind.i64 r4) [frz (List.map (fun n => Value.int IntKind.u8 n) us), Value.int IntKind.i64 a4], relPk [frz (List.map (fun n => Value.int IntKind.u8 n) us), Value.int IntKind.i64 a] [Value.int IntKind.i64 3] (Value.int IntKind.i64 r3) [frz (List.map (fun n => Value.int IntKind.u8 n) us), Value.int IntKind.i64 a3]]) := by kernel_rfl

theorem gp_ec (us : List Int) (a : Int) (os : List O) (id n i : Int) : hrun Tryd.prog kVl 5 ((pcs Tryd.prog 5).drop 6) (gBase us a (gOv os.length) [gOl os] 4) (mkF [(2, .pointer (some ⟨1, 0, none⟩)), (3, .pointer (some ⟨2, 0, none⟩))] 43) [] [] ⟨[(0, 0, false), (1, 1, false), (3, 3, true)], [], [2], 4, 1, false⟩ =
    some (HX.ret, [(0, HObj.row false [frz (List.map (fun n => Value.int IntKind.u8 n) us), Value.int IntKind.i64 a] 67), (1, HObj.row false [Value.slice (some { block := 3, off := 0 }) (List.length os) 9223372036854775810] 35), (3, HObj.row true (flatV (List.map encO os)) 64)], [(2, Value.pointer (some { block := 1, off := 0 }))], []) := by kernel_rfl

theorem gp_fc (us : List Int) (a : Int) (os : List O) : hfin Tryd.prog Tryd.f5 (mkSt [(0, .row false (dice us a) 67), (1, .row false [gOv os.length] 35), gOl os] 4 0) (mkF [(2, .pointer (some ⟨1, 0, none⟩))] 43) [] ⟨[(0, 0, false)], [(3, 2, os.map encO)], [], 1, 1, false⟩ =
    some (Value.agg { toList := [frz (List.map encO os)] }, [(0, HObj.row false [frz (List.map (fun n => Value.int IntKind.u8 n) us), Value.int IntKind.i64 a] 67)], [flatV (List.map encO os) = flatV (List.map encO os) ∧ (∀ (v : Value), v ∈ List.map encO os → Array.size (Value.cells v) = 2) ∧ 0 < 2, List.length os = List.length (List.map encO os)]) := by kernel_rfl

theorem gp_ycn (us : List Int) (a : Int) (os : List O) (id n i : Int) (fs : List V) (oid k : Int) : hrun Tryd.prog kVl 5 gBody2 (gBase us a (gOv os.length) [gOl os, gOb oid (.slice none 0 0)] 6) (gF id n i [(7, .pointer (some ⟨4, 0, none⟩)), (8, .int .i64 k)]) [false] [] ⟨[(0, 0, false), (1, 1, false), (2, 2, false), (3, 3, true), (4, 4, false)], [], [0, 2, 3, 4, 5, 6, 7], 6, 1, false⟩ =
    some (HX.exit 2, [(0, HObj.row false [frz (List.map (fun n => Value.int IntKind.u8 n) us), Value.int IntKind.i64 a] 67), (1, HObj.row false [Value.slice none 0 0] 35), (2, HObj.row false [Value.slice (some { block := 3, off := 0 }) (List.length os) 9223372036854775810] 35), (3, HObj.row true (flatV (List.map encO os)) 64), (4, HObj.row false [Value.int IntKind.i64 oid, Value.slice none 0 0] 64)], [(0, Value.pointer (some { block := 0, off := 0 })), (2, Value.pointer (some { block := 1, off := 0 })), (3, Value.pointer (some { block := 2, off := 0 })), (4, Value.int IntKind.i64 id), (5, Value.int IntKind.i64 n), (6, Value.int IntKind.i64 i), (7, Value.pointer (some { block := 4, off := 0 }))], [decide (k > 0) = false]) := by kernel_rfl

theorem gp_rcn (us : List Int) (a : Int) (os : List O) (id n i : Int) (fs : List V) (oid k : Int) (v : V) (a2 : Int) : hrun Tryd.prog kVl 5 gBody2 (gBase us a (gOv os.length) [gOl os, gOb oid (.slice none 0 0)] 6) (gF id n i [(7, .pointer (some ⟨4, 0, none⟩)), (8, .int .i64 k)]) [true, false] [[encV v, encU us, .int .i64 a2]] ⟨[(0, 0, false), (1, 1, false), (2, 2, false), (3, 3, true), (4, 4, false), (7, 5, true)], [], [0, 2, 3, 4, 5, 6, 7, 8], 6, 1, false⟩ =
    some (HX.normal, [(0, HObj.row false [frz (List.map (fun n => Value.int IntKind.u8 n) us), Value.int IntKind.i64 a2] 67), (1, HObj.row false [Value.slice none 0 0] 35), (2, HObj.row false [Value.slice (some { block := 3, off := 0 }) (List.length os) 9223372036854775810] 35), (3, HObj.row true (flatV (List.map encO os)) 64), (4, HObj.row false [Value.int IntKind.i64 oid, Value.slice (some { block := 5, off := 0 }) 1 9223372036854775810] 64), (5, HObj.row true [Value.bool v.fst, Value.int IntKind.i64 v.snd] 24)], [(0, Value.pointer (some { block := 0, off := 0 })), (2, Value.pointer (some { block := 1, off := 0 })), (3, Value.pointer (some { block := 2, off := 0 })), (4, Value.int IntKind.i64 id), (5, Value.int IntKind.i64 n), (6, Value.int IntKind.i64 i), (7, Value.pointer (some { block := 4, off := 0 })), (8, Value.int IntKind.i64 (IntKind.wrap IntKind.i64 (k - 1)))], [(Nat.ble 16 140737488355328 && Nat.ble 1 4611686018427387904) = true, Nat.beq 1 0 = false, relVl [frz (List.map (fun n => Value.int IntKind.u8 n) us), Value.int IntKind.i64 a] [] (Value.agg { toList := [Value.bool v.fst, Value.int IntKind.i64 v.snd] }) [frz (List.map (fun n => Value.int IntKind.u8 n) us), Value.int IntKind.i64 a2], decide (k > 0) = true]) := by kernel_rfl


theorem gp_ycc (us : List Int) (a : Int) (os : List O) (id n i : Int) (fs : List V) (oid k : Int) : hrun Tryd.prog kVl 5 gBody2 (gBase us a (gOv os.length) [gOl os, gOb oid (gFv fs.length), gFl fs] 6) (gF id n i [(7, .pointer (some ⟨4, 0, none⟩)), (8, .int .i64 k)]) [false] [] ⟨[(0, 0, false), (1, 1, false), (2, 2, false), (3, 3, true), (4, 4, false)], [(5, 2, fs.map encV)], [0, 2, 3, 4, 5, 6, 7], 6, 1, false⟩ =
    some (HX.exit 2, [(0, HObj.row false [frz (List.map (fun n => Value.int IntKind.u8 n) us), Value.int IntKind.i64 a] 67), (1, HObj.row false [Value.slice none 0 0] 35), (2, HObj.row false [Value.slice (some { block := 3, off := 0 }) (List.length os) 9223372036854775810] 35), (3, HObj.row true (flatV (List.map encO os)) 64), (4, HObj.row false [Value.int IntKind.i64 oid, frz (List.map encV fs)] 64)], [(0, Value.pointer (some { block := 0, off := 0 })), (2, Value.pointer (some { block := 1, off := 0 })), (3, Value.pointer (some { block := 2, off := 0 })), (4, Value.int IntKind.i64 id), (5, Value.int IntKind.i64 n), (6, Value.int IntKind.i64 i), (7, Value.pointer (some { block := 4, off := 0 }))], [decide (k > 0) = false, flatV (List.map encV fs) = flatV (List.map encV fs) ∧ (∀ (v : Value), v ∈ List.map encV fs → Array.size (Value.cells v) = 2) ∧ 0 < 2, List.length fs = List.length (List.map encV fs)]) := by kernel_rfl

theorem gp_rcc (us : List Int) (a : Int) (os : List O) (id n i : Int) (fs : List V) (oid k : Int) (v : V) (a2 : Int) : hrun Tryd.prog kVl 5 gBody2 (gBase us a (gOv os.length) [gOl os, gOb oid (gFv fs.length), gFl fs] 6) (gF id n i [(7, .pointer (some ⟨4, 0, none⟩)), (8, .int .i64 k)]) [true, false] [[encV v, encU us, .int .i64 a2]] ⟨[(0, 0, false), (1, 1, false), (2, 2, false), (3, 3, true), (4, 4, false), (7, 5, true)], [], [0, 2, 3, 4, 5, 6, 7, 8], 6, 1, false⟩ =
    some (HX.normal, [(0, HObj.row false [frz (List.map (fun n => Value.int IntKind.u8 n) us), Value.int IntKind.i64 a2] 67), (1, HObj.row false [Value.slice none 0 0] 35), (2, HObj.row false [Value.slice (some { block := 3, off := 0 }) (List.length os) 9223372036854775810] 35), (3, HObj.row true (flatV (List.map encO os)) 64), (4, HObj.row false [Value.int IntKind.i64 oid, Value.slice (some { block := 5, off := 0 }) (List.length fs + 1) 9223372036854775810] 64), (5, HObj.row true (flatV (List.map encV fs) ++ [Value.bool v.fst, Value.int IntKind.i64 v.snd]) 24)], [(0, Value.pointer (some { block := 0, off := 0 })), (2, Value.pointer (some { block := 1, off := 0 })), (3, Value.pointer (some { block := 2, off := 0 })), (4, Value.int IntKind.i64 id), (5, Value.int IntKind.i64 n), (6, Value.int IntKind.i64 i), (7, Value.pointer (some { block := 4, off := 0 })), (8, Value.int IntKind.i64 (IntKind.wrap IntKind.i64 (k - 1)))], [List.length fs * 2 = List.length (flatV (List.map encV fs)), (Nat.ble ((List.length fs + 1) * 16) 140737488355328 && Nat.ble (List.length fs + 1) 4611686018427387904) = true, Nat.beq 1 0 = false, relVl [frz (List.map (fun n => Value.int IntKind.u8 n) us), Value.int IntKind.i64 a] [] (Value.agg { toList := [Value.bool v.fst, Value.int IntKind.i64 v.snd] }) [frz (List.map (fun n => Value.int IntKind.u8 n) us), Value.int IntKind.i64 a2], decide (k > 0) = true]) := by kernel_rfl


theorem gp_an (us : List Int) (a : Int) (os : List O) (id n i : Int) (fs : List V) (oid : Int) : hrun Tryd.prog kVl 5 (gIn.drop 4) (gBase us a (.slice none 0 0) [gOb oid (encFs fs)] 6) (gF id n i [(7, .pointer (some ⟨4, 0, none⟩))]) [false] [] ⟨[(0, 0, false), (1, 1, false), (2, 2, false), (7, 3, true)], [], [0, 2, 3, 4, 5, 6], 4, 1, false⟩ =
    some (HX.normal, [(0, HObj.row false [frz (List.map (fun n => Value.int IntKind.u8 n) us), Value.int IntKind.i64 a] 67), (1, HObj.row false [Value.slice none 0 0] 35), (2, HObj.row false [Value.slice (some { block := 3, off := 0 }) 1 9223372036854775810] 35), (3, HObj.row true [Value.int IntKind.i64 oid, frz (List.map encV fs)] 64)], [(0, Value.pointer (some { block := 0, off := 0 })), (2, Value.pointer (some { block := 1, off := 0 })), (3, Value.pointer (some { block := 2, off := 0 })), (4, Value.int IntKind.i64 id), (5, Value.int IntKind.i64 n), (6, Value.int IntKind.i64 i)], [(Nat.ble 32 140737488355328 && Nat.ble 1 4611686018427387904) = true, Nat.beq 1 0 = false]) := by kernel_rfl

theorem gp_ac (us : List Int) (a : Int) (os : List O) (id n i : Int) (fs : List V) (oid : Int) : hrun Tryd.prog kVl 5 (gIn.drop 4) (gBase us a (gOv os.length) [gOl os, gOb oid (encFs fs)] 6) (gF id n i [(7, .pointer (some ⟨4, 0, none⟩))]) [false] [] ⟨[(0, 0, false), (1, 1, false), (2, 2, false), (7, 3, true)], [], [0, 2, 3, 4, 5, 6], 4, 1, false⟩ =
    some (HX.normal, [(0, HObj.row false [frz (List.map (fun n => Value.int IntKind.u8 n) us), Value.int IntKind.i64 a] 67), (1, HObj.row false [Value.slice none 0 0] 35), (2, HObj.row false [Value.slice (some { block := 3, off := 0 }) (List.length os + 1) 9223372036854775810] 35), (3, HObj.row true (flatV (List.map encO os) ++ [Value.int IntKind.i64 oid, frz (List.map encV fs)]) 64)], [(0, Value.pointer (some { block := 0, off := 0 })), (2, Value.pointer (some { block := 1, off := 0 })), (3, Value.pointer (some { block := 2, off := 0 })), (4, Value.int IntKind.i64 id), (5, Value.int IntKind.i64 n), (6, Value.int IntKind.i64 i)], [List.length os * 2 = List.length (flatV (List.map encO os)), (Nat.ble ((List.length os + 1) * 32) 140737488355328 && Nat.ble (List.length os + 1) 4611686018427387904) = true, Nat.beq 1 0 = false]) := by kernel_rfl

theorem gp_i (us : List Int) (a : Int) (os : List O) (id n i : Int) : hrun Tryd.prog kVl 5 (gBody.drop 3) (gBase us a (gOv os.length) [gOl os] 4) (gF id n i []) [] [] ⟨[(0, 0, false), (1, 1, false), (2, 2, false), (3, 3, true)], [], [0, 2, 3, 4, 5, 6], 4, 1, false⟩ =
    some (HX.normal, [(0, HObj.row false [frz (List.map (fun n => Value.int IntKind.u8 n) us), Value.int IntKind.i64 a] 67), (1, HObj.row false [Value.slice none 0 0] 35), (2, HObj.row false [Value.slice (some { block := 3, off := 0 }) (List.length os) 9223372036854775810] 35), (3, HObj.row true (flatV (List.map encO os)) 64)], [(0, Value.pointer (some { block := 0, off := 0 })), (2, Value.pointer (some { block := 1, off := 0 })), (3, Value.pointer (some { block := 2, off := 0 })), (4, Value.int IntKind.i64 id), (5, Value.int IntKind.i64 n), (6, Value.int IntKind.i64 (IntKind.wrap IntKind.i64 (i + 1)))], []) := by kernel_rfl

end Go.Proofs.MA

namespace Go.Proofs.MA
open Go Go.Hx Go.RowKit Go.Proofs
set_option maxRecDepth 100000

def fldF (us : List Int) : Nat → Nat → List V → List V × Nat
  | 0, a, fs => (fs, a)
  | k + 1, a, fs => fldF us k (valF us a).2 (fs ++ [(valF us a).1])
def idF (us : List Int) (a : Nat) (id : Int) : Int := IntKind.wrap .i64 (id + IntKind.wrap .i64 (1 + (pickF us a 3).1))
def objF (us : List Int) (a : Nat) (id : Int) : O × Nat :=
  ((idF us a id, (fldF us (pickF us (pickF us a 3).2 4).1.toNat (pickF us (pickF us a 3).2 4).2 []).1), (fldF us (pickF us (pickF us a 3).2 4).1.toNat (pickF us (pickF us a 3).2 4).2 []).2)
def hpF (us : List Int) : Nat → Nat → Int → List O → List O × Nat
  | 0, a, _, os => (os, a)
  | k + 1, a, id, os => hpF us k (objF us a id).2 (objF us a id).1.1 (os ++ [(objF us a id).1])
def heapF (us : List Int) (a : Nat) : List O × Nat := hpF us (pickF us a 6).1.toNat (pickF us a 6).2 0 []

theorem fldF_len (us : List Int) : ∀ (k a : Nat) (fs : List V), (fldF us k a fs).1.length = fs.length + k
  | 0, _, _ => rfl
  | k + 1, a, fs => by rw [fldF, fldF_len us k]; simp; omega
theorem objF_len (us : List Int) (a : Nat) (id : Int) : (objF us a id).1.2.length ≤ 3 := by
  show (fldF us _ _ []).1.length ≤ 3
  rw [fldF_len]
  have := pickF_lt us (pickF us a 3).2 4 (by omega)
  simp; omega
theorem hpF_len (us : List Int) : ∀ (k a : Nat) (id : Int) (os : List O), (∀ o ∈ os, o.2.length ≤ 3) → (hpF us k a id os).1.length = os.length + k ∧ ∀ o ∈ (hpF us k a id os).1, o.2.length ≤ 3
  | 0, _, _, _, h => ⟨rfl, h⟩
  | k + 1, a, id, os, h => by
    rw [hpF]
    obtain ⟨h1, h2⟩ := hpF_len us k (objF us a id).2 (objF us a id).1.1 (os ++ [(objF us a id).1]) (fun o ho => by
      rcases List.mem_append.1 ho with ho | ho
      · exact h o ho
      · rw [List.mem_singleton.1 ho]; exact objF_len us a id)
    exact ⟨by rw [h1]; simp; omega, h2⟩
theorem heapF_len (us : List Int) (a : Nat) : SmB 10 (heapF us a).1 := by
  obtain ⟨h1, h2⟩ := hpF_len us (pickF us a 6).1.toNat (pickF us a 6).2 0 [] (fun o ho => by cases ho)
  have := pickF_lt us a 6 (by omega)
  refine ⟨by show (hpF us _ _ 0 []).1.length ≤ 10; rw [h1]; simp; omega, fun o ho => ?_⟩
  have := h2 o ho
  unfold SmV
  omega

def gSt (us : List Int) (a : Int) (os : List O) (l : List (Nat × HObj)) (n : Nat) : St := match os with
  | [] => gBase us a (.slice none 0 0) l n
  | x :: r => gBase us a (gOv (x :: r).length) (gOl (x :: r) :: l) n
def gIt (us : List Int) (a : Int) (os : List O) (oid : Int) (fs : List V) : St := match fs with
  | [] => gSt us a os [gOb oid (.slice none 0 0)] 6
  | x :: r => gSt us a os [gOb oid (gFv (x :: r).length), gFl (x :: r)] 6
def gF2 (id n i k : Int) : HF := gF id n i [(7, .pointer (some ⟨4, 0, none⟩)), (8, .int .i64 k)]
def gF1 (id n i : Int) : HF := gF id n i [(7, .pointer (some ⟨4, 0, none⟩))]

theorem flat_V_snoc (fs : List V) (v : V) : flatV (fs.map encV) ++ [.bool v.1, .int .i64 v.2] = flatV ((fs ++ [v]).map encV) := by
  rw [List.map_append, flatV_app]; rfl
theorem flat_O_snoc (os : List O) (o : O) : flatV (os.map encO) ++ [.int .i64 o.1, encFs o.2] = flatV ((os ++ [o]).map encO) := by
  rw [List.map_append, flatV_app]; rfl

theorem gi_l3 : gIn.drop 3 = .block 2 (.loop (loopIn (nth gIn 3))) :: gIn.drop 4 := by kernel_rfl
theorem gb_l2 : gBody.drop 2 = .block 1 (blockIn (nth gBody 2)) :: gBody.drop 3 := by kernel_rfl
theorem gp_l5 : (pcs Tryd.prog 5).drop 5 = .block 0 (.loop (loopIn (nth (pcs Tryd.prog 5) 5))) :: (pcs Tryd.prog 5).drop 6 := by kernel_rfl

section
variable (us : List Int) (hus : us.length ≤ 1000000)
include hus

theorem gp_pk (a : Nat) (n : Int) (hn : n ≠ 0) : relPk [encU us, .int .i64 a] [.int .i64 n] (.int .i64 (pickF us a n).1) [encU us, .int .i64 (pickF us a n).2] := ⟨us, a, n, hus, hn, rfl, rfl, rfl, rfl⟩
theorem gp_vl (a : Nat) : relVl [encU us, .int .i64 a] [] (encV (valF us a).1) [encU us, .int .i64 (valF us a).2] := ⟨us, a, hus, rfl, rfl, rfl, rfl⟩

/-- A field more. -/
theorem gi_step (a : Nat) (os : List O) (id n i oid : Int) (fs : List V) (k : Int) (hk : 0 < k) (hf : fs.length ≤ 1000) {Q : HX → St → HF → Prop}
    (hQ : Q .normal (gIt us (valF us a).2 os oid (fs ++ [(valF us a).1])) (gF2 id n i (IntKind.wrap .i64 (k - 1)))) : Ex Tryd.prog 1 gBody2 (gIt us a os oid fs) (gF2 id n i k) Q := by
  have hd : decide (k > 0) = true := by simpa using hk
  have hv := gp_vl us hus a
  have hl2 : fs.length * 2 = (flatV (fs.map encV)).length := by rw [flatV_V_len]
  have hap : (Nat.ble ((fs.length + 1) * 16) 140737488355328 && Nat.ble (fs.length + 1) 4611686018427387904) = true := apOK (by omega) (by omega)
  cases os with
  | nil =>
    cases fs with
    | nil =>
      exact Ex.stepN noGT kVl_ok 99 43 0 6 (gp_rnn us a [] id n i [] oid k (valF us a).1 (valF us a).2) rfl (.cons rfl (.cons rfl (.cons hv (.cons hd .nil)))) (Ex.nil hQ)
    | cons x r =>
      refine Ex.stepN noGT kVl_ok 99 43 0 6 (gp_rnc us a [] id n i (x :: r) oid k (valF us a).1 (valF us a).2) rfl (.cons hl2 (.cons hap (.cons rfl (.cons hv (.cons hd .nil))))) (Ex.nil ?_)
      rw [flat_V_snoc, show (x :: r).length + 1 = (x :: r ++ [(valF us a).1]).length by simp]
      exact hQ
  | cons y l =>
    cases fs with
    | nil =>
      exact Ex.stepN noGT kVl_ok 99 43 0 6 (gp_rcn us a (y :: l) id n i [] oid k (valF us a).1 (valF us a).2) rfl (.cons rfl (.cons rfl (.cons hv (.cons hd .nil)))) (Ex.nil hQ)
    | cons x r =>
      refine Ex.stepN noGT kVl_ok 99 43 0 6 (gp_rcc us a (y :: l) id n i (x :: r) oid k (valF us a).1 (valF us a).2) rfl (.cons hl2 (.cons hap (.cons rfl (.cons hv (.cons hd .nil))))) (Ex.nil ?_)
      rw [flat_V_snoc, show (x :: r).length + 1 = (x :: r ++ [(valF us a).1]).length by simp]
      exact hQ

omit hus in
/-- No field more. -/
theorem gi_exit (a : Nat) (os : List O) (id n i oid : Int) (fs : List V) (k : Int) (hk : ¬ 0 < k) {ds : List Code} {Q : HX → St → HF → Prop} {I : Nat → St → HF → Prop} {m : Nat}
    (h : Ex Tryd.prog 1 ds (gSt us a os [gOb oid (encFs fs)] 6) (gF1 id n i) Q) : Ex Tryd.prog 1 gBody2 (gIt us a os oid fs) (gF2 id n i k) (rndQ Tryd.prog 1 2 ds Q I m) := by
  have hd : decide (k > 0) = false := by simpa using hk
  have cell : ∀ (j : Nat) (v' : Value), ([.int .i64 oid, frz []] : List Value)[j]? = some v' → ∃ v, ([.int .i64 oid, .slice none 0 0] : List Value)[j]? = some v ∧ (v' = v ∨ (v = .slice none 0 0 ∧ v' = frz [])) := by
    intro j v' hj
    match j, hj with
    | 0, hj => exact ⟨_, rfl, .inl (Option.some.inj hj).symm⟩
    | 1, hj => exact ⟨_, rfl, .inr ⟨rfl, (Option.some.inj hj).symm⟩⟩
    | n + 2, hj => simp at hj
  have ice : ∀ fs : List V, flatV (fs.map encV) = flatV (fs.map encV) ∧ (∀ v ∈ fs.map encV, v.cells.size = 2) ∧ 0 < 2 := fun fs => ⟨rfl, flatV_encV _, by omega⟩
  cases os with
  | nil =>
    cases fs with
    | nil =>
      refine Ex.stepN noGT kVl_ok 99 43 0 6 (gp_ynn us a [] id n i [] oid k) rfl (.cons hd .nil) ?_
      refine goOn.out ?_
      refine Ex.turn (s2 := gSt us a [] [gOb oid (encFs [])] 6) (turn_row (i := 4) (c := [.int .i64 oid, .slice none 0 0]) (c' := [.int .i64 oid, frz []]) (e := 64) (by kernel_rfl) (by kernel_rfl) rfl cell rfl rfl) h
    | cons x r =>
      refine Ex.stepN noGT kVl_ok 99 43 0 6 (gp_ync us a [] id n i (x :: r) oid k) rfl (.cons hd (.cons (ice _) (.cons (by simp) .nil))) ?_
      exact goOn.out h
  | cons y l =>
    cases fs with
    | nil =>
      refine Ex.stepN noGT kVl_ok 99 43 0 6 (gp_ycn us a (y :: l) id n i [] oid k) rfl (.cons hd .nil) ?_
      refine goOn.out ?_
      refine Ex.turn (s2 := gSt us a (y :: l) [gOb oid (encFs [])] 6) (turn_row (i := 4) (c := [.int .i64 oid, .slice none 0 0]) (c' := [.int .i64 oid, frz []]) (e := 64) (by kernel_rfl) (by kernel_rfl) rfl cell rfl rfl) h
    | cons x r =>
      refine Ex.stepN noGT kVl_ok 99 43 0 6 (gp_ycc us a (y :: l) id n i (x :: r) oid k) rfl (.cons hd (.cons (ice _) (.cons (by simp) .nil))) ?_
      exact goOn.out h


/-- All fields. -/
theorem gi_loop (os : List O) (id n i oid : Int) {Q : HX → St → HF → Prop} (a1 : Nat) (fs1 : List V) (h : Ex Tryd.prog 1 (gIn.drop 4) (gSt us a1 os [gOb oid (encFs fs1)] 6) (gF1 id n i) Q) (h1 : fs1.length ≤ 1000) (k : Int) (hk : k ≤ 1000) (a : Nat) (hF : fldF us k.toNat a [] = (fs1, a1)) :
    Ex Tryd.prog 1 (gIn.drop 3) (gIt us a os oid []) (gF2 id n i k) Q := by
  rw [gi_l3]
  refine Ex.loop (fun m s f => ∃ (k : Int) (a : Nat) (fs : List V), m = k.toNat ∧ k ≤ 1000 ∧ fldF us k.toNat a fs = (fs1, a1) ∧ s = gIt us a os oid fs ∧ f = gF2 id n i k) ?_ ⟨k, a, [], rfl, hk, hF, rfl, rfl⟩
  rintro m s f ⟨k, a, fs, rfl, hk, hF, rfl, rfl⟩
  by_cases hk0 : 0 < k
  · have hkk : k.toNat = (k - 1).toNat + 1 := by omega
    have hlen : fs.length ≤ 1000 := by
      have := fldF_len us k.toNat a fs
      rw [hF] at this
      simp only at this
      omega
    refine gi_step us hus a os id n i oid fs k hk0 hlen ?_
    have hw : IntKind.wrap .i64 (k - 1) = k - 1 := IntWalk.i64_in _ (by omega)
    rw [hw]
    rw [hkk, fldF] at hF
    exact ⟨(k - 1).toNat, by omega, k - 1, _, _, rfl, by omega, hF, rfl, rfl⟩
  · have hkk : k.toNat = 0 := by omega
    rw [hkk, fldF] at hF
    cases hF
    exact gi_exit us _ os id n i oid _ k hk0 h

/-- One object. -/
theorem gp_step (a : Nat) (os : List O) (id n i : Int) (hi : i < n) (hn : n ≤ 1000) (h0 : 0 ≤ i) (ho : os.length ≤ 1000) {Q : HX → St → HF → Prop}
    (hQ : Q .normal (gSt us (objF us a id).2 (os ++ [(objF us a id).1]) [] 4) (gF (objF us a id).1.1 n (i + 1) [])) : Ex Tryd.prog 1 gBody (gSt us a os [] 4) (gF id n i []) Q := by
  have hd : decide (i < n) = true := by simpa using hi
  have p1 := gp_pk us hus a 3 (by omega)
  have p2 := gp_pk us hus (pickF us a 3).2 4 (by omega)
  have hl4 := pickF_lt us (pickF us a 3).2 4 (by omega)
  have hw : IntKind.wrap .i64 (i + 1) = i + 1 := IntWalk.i64_in _ (by omega)
  -- from the inner piece on
  have tail : ∀ (b : Nat) (fs : List V) (oid : Int), Q .normal (gSt us b (os ++ [(oid, fs)]) [] 4) (gF oid n (i + 1) []) →
      Ex Tryd.prog 1 (gIn.drop 4) (gSt us b os [gOb oid (encFs fs)] 6) (gF1 oid n i) (blkQ Tryd.prog 1 1 (gBody.drop 3) Q) := by
    intro b fs oid hQ
    have last : Ex Tryd.prog 1 (gBody.drop 3) (gSt us b (os ++ [(oid, fs)]) [] 4) (gF oid n i []) Q := by
      obtain ⟨y, l, hyl⟩ : ∃ y l, os ++ [(oid, fs)] = y :: l := by
        cases os with
        | nil => exact ⟨_, _, rfl⟩
        | cons y l => exact ⟨_, _, rfl⟩
      rw [hyl] at hQ ⊢
      refine Ex.stepN noGT kVl_ok 99 43 0 4 (gp_i us b (y :: l) oid n i) rfl .nil (Ex.nil ?_)
      rw [hw]
      exact hQ
    cases os with
    | nil =>
      exact Ex.stepN noGT kVl_ok 99 43 0 4 (gp_an us b [] oid n i fs oid) rfl (.cons rfl (.cons rfl .nil)) (Ex.nil last)
    | cons y l =>
      refine Ex.stepN noGT kVl_ok 99 43 0 4 (gp_ac us b (y :: l) oid n i fs oid) rfl (.cons (by rw [flatV_O_len]) (.cons (apOK (by simp at ho ⊢; omega) (by simp at ho ⊢; omega)) (.cons rfl .nil))) (Ex.nil ?_)
      have := flat_O_snoc (y :: l) (oid, fs)
      have h9 : flatV (List.map encO (y :: l)) ++ [Value.int IntKind.i64 oid, frz (List.map encV fs)] = flatV ((y :: l ++ [(oid, fs)]).map encO) := this
      rw [h9, show (y :: l).length + 1 = (y :: l ++ [(oid, fs)]).length by simp]
      exact last
  have hf := fldF_len us (pickF us (pickF us a 3).2 4).1.toNat (pickF us (pickF us a 3).2 4).2 []
  have inner := gi_loop us hus os (idF us a id) n i (idF us a id) (Q := blkQ Tryd.prog 1 1 (gBody.drop 3) Q) _ _ (tail (objF us a id).2 (objF us a id).1.2 (idF us a id) hQ) (Nat.le_trans (objF_len us a id) (by omega)) (pickF us (pickF us a 3).2 4).1 (by omega) (pickF us (pickF us a 3).2 4).2 rfl
  have mid : ∀ s, s = gSt us a os [] 4 → Ex Tryd.prog 1 gIn s (gF id n i []) (blkQ Tryd.prog 1 1 (gBody.drop 3) Q) := by
    rintro s rfl
    cases os with
    | nil => exact Ex.stepN noGT kVl_ok 3 43 0 6 (gp_on us a [] id n i (pickF us a 3).1 (pickF us (pickF us a 3).2 4).1 (pickF us a 3).2 (pickF us (pickF us a 3).2 4).2) rfl (.cons p2 (.cons p1 .nil)) inner
    | cons y l => exact Ex.stepN noGT kVl_ok 3 43 0 6 (gp_oc us a (y :: l) id n i (pickF us a 3).1 (pickF us (pickF us a 3).2 4).1 (pickF us a 3).2 (pickF us (pickF us a 3).2 4).2) rfl (.cons p2 (.cons p1 .nil)) inner
  cases os with
  | nil =>
    refine Ex.stepN noGT kVl_ok 2 43 0 4 (gp_tn us a [] id n i) rfl (.cons hd .nil) ?_
    show Ex Tryd.prog 1 (gBody.drop 2) _ _ _
    rw [gb_l2]
    exact Ex.block (mid _ rfl)
  | cons y l =>
    refine Ex.stepN noGT kVl_ok 2 43 0 4 (gp_tc us a (y :: l) id n i) rfl (.cons hd .nil) ?_
    show Ex Tryd.prog 1 (gBody.drop 2) _ _ _
    rw [gb_l2]
    exact Ex.block (mid _ rfl)

theorem hp_ok (a : Nat) : FnEx Tryd.prog 5 [.pointer (some ⟨0, 0, none⟩)] (oneS (dice us a) 67) (fun u t => u = encH (heapF us a).1 ∧ t = oneS (dice us (heapF us a).2) 67) := by
  refine FnEx.enter (n0 := 1) (fn := Tryd.f5) (c := bodyOf Tryd.prog 5) Tryd.func5 (by kernel_rfl) rfl rfl ?_
  show Ex _ _ (pcs Tryd.prog 5) _ _ _
  have hr := pickF_lt us a 6 (by omega)
  refine Ex.stepN noGT kVl_ok 5 43 0 4 (gp_0 us a (pickF us a 6).1 (pickF us a 6).2) rfl (.cons (gp_pk us hus a 6 (by omega)) .nil) ?_
  show Ex Tryd.prog 1 ((pcs Tryd.prog 5).drop 5) (gSt us (pickF us a 6).2 [] [] 4) (gF 0 (pickF us a 6).1 0 []) _
  rw [gp_l5]
  generalize hn : (pickF us a 6).1 = n at hr
  refine Ex.loop (fun m s f => ∃ (a1 : Nat) (id : Int) (os : List O), m = (n - os.length).toNat ∧ os.length ≤ 1000 ∧ hpF us (n - os.length).toNat a1 id os = heapF us a ∧ s = gSt us a1 os [] 4 ∧ f = gF id n os.length []) ?_ ⟨(pickF us a 6).2, 0, [], rfl, by simp, by
    show hpF us (n - ((0 : Nat) : Int)).toNat _ 0 [] = _
    rw [show (n - ((0 : Nat) : Int)) = n by omega, ← hn]; rfl, rfl, rfl⟩
  rintro m s f ⟨a1, id, os, rfl, hlen, hF, rfl, rfl⟩
  show Ex Tryd.prog 1 gBody _ _ _
  by_cases hlt : ((os.length : Nat) : Int) < n
  · refine gp_step us hus a1 os id n os.length hlt (by omega) (by omega) hlen ?_
    have e1 : (n - os.length).toNat = (n - ((os ++ [(objF us a1 id).1]).length : Nat)).toNat + 1 := by simp; omega
    rw [e1, hpF] at hF
    refine ⟨_, by rw [e1]; omega, (objF us a1 id).2, (objF us a1 id).1.1, os ++ [(objF us a1 id).1], rfl, by simp; omega, hF, rfl, ?_⟩
    simp
  · have hd : decide (((os.length : Nat) : Int) < n) = false := by simpa using hlt
    have e1 : (n - os.length).toNat = 0 := by omega
    rw [e1, hpF] at hF
    rw [← hF]
    cases os with
    | nil =>
      refine Ex.stepN noGT kVl_ok 99 43 0 4 (gp_xn us a1 [] id n 0) rfl (.cons hd .nil) ?_
      refine goOn.out ?_
      refine Ex.stepN noGT kVl_ok 99 43 0 4 (gp_en us a1 [] 0 0 0) rfl .nil ?_
      exact FinQ.mk' (.inr rfl) (gp_fn us a1 []) rfl .nil ⟨rfl, rfl⟩
    | cons y l =>
      refine Ex.stepN noGT kVl_ok 99 43 0 4 (gp_xc us a1 (y :: l) id n (y :: l).length) rfl (.cons hd .nil) ?_
      refine goOn.out ?_
      refine Ex.stepN noGT kVl_ok 99 43 0 4 (gp_ec us a1 (y :: l) 0 0 0) rfl .nil ?_
      exact FinQ.mk' (.inr rfl) (gp_fc us a1 (y :: l)) rfl (.cons ⟨rfl, flatV_encO _, by omega⟩ (.cons (by simp) .nil)) ⟨rfl, rfl⟩
end
end Go.Proofs.MA
