/- MachineApplies: the law over frozen arguments. Conditions: none. -/
import Derived.Test.YtpjfmjemmphheacDoorS1
import Derived.Test.YtpjfmjemmphheacDoorN2
set_option linter.all false
set_option linter.unusedVariables false
set_option linter.unusedSimpArgs false
namespace Go.Proofs.MA
open Go Go.Hx Go.RowKit Go.Proofs
set_option maxRecDepth 100000

def cellsO (o : Ou) : List Value := [encAs o.1, .bool o.2.1, .bool o.2.2.1.1, .int .i64 o.2.2.1.2, encOs o.2.2.2]
def relHp : RRel := fun c rest v c' => ∃ (us : List Int) (a : Nat), us.length ≤ 1000000 ∧ c = dice us a ∧ rest = [] ∧ v = encH (heapF us a).1 ∧ c' = dice us (heapF us a).2
def relOu : Rel := fun args v => ∃ a b : Ou, a.1.length ≤ 9000000000000000000 ∧ SmO a.2.2.2 ∧ args = [encOu a, encOu b] ∧ v = .bool (decide (a = b))
noncomputable def kL : HCall := orK (runK 4 tableV 3 (.bool true)) (orK (specK [(7, relKh), (8, relSm), (9, relMa), (10, relMa), (11, relOu), (12, relOu)]) (orK (rowK 67 [(5, relHp)]) kIn))
def laG : St := mkSt [(0, .ro tableV)] 3 3
def laS (e : Eff) (h : List O) (o p : Ou) (l : List (Nat × HObj)) (n : Nat) : St := mkSt ([(3, .row false (cellsE e) 33), (4, .row false [encOs h] 35), (5, .row false (cellsO o) 37), (6, .row false (cellsO p) 37)] ++ l) n 3
def laF (us : List Int) (l : List (Nat × Value)) : HF := mkF ([(0, encU us), (6, .pointer (some ⟨3, 0, none⟩)), (7, .pointer (some ⟨4, 0, none⟩)), (8, .pointer (some ⟨5, 0, none⟩)), (9, .pointer (some ⟨6, 0, none⟩))] ++ l) 81

theorem la_1 (us : List Int) (e : Eff) (h : List O) (o p : Ou) : hrun Tryd.prog kL 5 ((pcs Tryd.prog 3).take 3) laG (entF [encU us, encE e, encH h, encOu o, encOu p] 81) [false] [] ⟨[(3, 3, false), (4, 4, false), (5, 5, false), (6, 6, false)], [], [0, 6, 7, 8, 9], 7, 3, false⟩ =
    some (HX.normal, [(3, HObj.row false (cellsE e) 33), (4, HObj.row false [frz (List.map encO h)] 35), (5, HObj.row false [frz (List.map encA o.fst), Value.bool o.snd.fst, Value.bool o.snd.snd.fst.fst, Value.int IntKind.i64 o.snd.snd.fst.snd, frz (List.map encO o.snd.snd.snd)] 37), (6, HObj.row false [frz (List.map encA p.fst), Value.bool p.snd.fst, Value.bool p.snd.snd.fst.fst, Value.int IntKind.i64 p.snd.snd.fst.snd, frz (List.map encO p.snd.snd.snd)] 37)], [(0, frz (List.map (fun n => Value.int IntKind.u8 n) us)), (6, Value.pointer (some { block := 3, off := 0 })), (7, Value.pointer (some { block := 4, off := 0 })), (8, Value.pointer (some { block := 5, off := 0 })), (9, Value.pointer (some { block := 6, off := 0 }))], [(!true) = false, [Value.int IntKind.i64 0, Value.int IntKind.i64 0, Value.int IntKind.i64 0, Value.int IntKind.i64 0, Value.int IntKind.i64 1, Value.int IntKind.i64 0, Value.int IntKind.i64 0, Value.int IntKind.i64 2, Value.int IntKind.i64 1, Value.int IntKind.i64 0, Value.int IntKind.i64 0, Value.int IntKind.i64 0, Value.int IntKind.i64 1, Value.int IntKind.i64 1, Value.int IntKind.i64 0, Value.int IntKind.i64 0, Value.int IntKind.i64 1, Value.int IntKind.i64 1, Value.int IntKind.i64 1, Value.int IntKind.i64 6, Value.int IntKind.i64 1, Value.int IntKind.i64 1, Value.int IntKind.i64 0, Value.int IntKind.i64 3, Value.int IntKind.i64 1, Value.int IntKind.i64 1, Value.int IntKind.i64 0, Value.int IntKind.i64 3, Value.int IntKind.i64 1, Value.int IntKind.i64 0, Value.int IntKind.i64 0, Value.int IntKind.i64 4, Value.int IntKind.i64 1, Value.int IntKind.i64 0, Value.int IntKind.i64 0, Value.int IntKind.i64 5, Value.int IntKind.i64 1, Value.int IntKind.i64 0, Value.int IntKind.i64 0, Value.int IntKind.i64 5, Value.int IntKind.i64 1, Value.int IntKind.i64 7, Value.int IntKind.i64 0, Value.int IntKind.i64 5, Value.int IntKind.i64 0, Value.int IntKind.i64 0, Value.int IntKind.i64 0, Value.int IntKind.i64 8, Value.int IntKind.i64 1, Value.int IntKind.i64 0, Value.int IntKind.i64 0, Value.int IntKind.i64 8, Value.int IntKind.i64 0, Value.int IntKind.i64 10, Value.int IntKind.i64 11, Value.int IntKind.i64 9, Value.int IntKind.i64 1, Value.int IntKind.i64 0, Value.int IntKind.i64 0, Value.int IntKind.i64 0, Value.int IntKind.i64 1, Value.int IntKind.i64 0, Value.int IntKind.i64 0, Value.int IntKind.i64 0, Value.int IntKind.i64 1, Value.int IntKind.i64 0, Value.int IntKind.i64 0, Value.int IntKind.i64 0, Value.int IntKind.i64 0, Value.int IntKind.i64 0, Value.int IntKind.i64 0, Value.int IntKind.i64 12, Value.int IntKind.i64 1, Value.int IntKind.i64 0, Value.int IntKind.i64 0, Value.int IntKind.i64 0, Value.int IntKind.i64 1, Value.int IntKind.i64 0, Value.int IntKind.i64 0, Value.int IntKind.i64 0, Value.int IntKind.i64 0, Value.int IntKind.i64 0, Value.int IntKind.i64 0, Value.int IntKind.i64 5, Value.int IntKind.i64 0, Value.int IntKind.i64 0, Value.int IntKind.i64 0, Value.int IntKind.i64 13] = [Value.int IntKind.i64 0, Value.int IntKind.i64 0, Value.int IntKind.i64 0, Value.int IntKind.i64 0, Value.int IntKind.i64 1, Value.int IntKind.i64 0, Value.int IntKind.i64 0, Value.int IntKind.i64 2, Value.int IntKind.i64 1, Value.int IntKind.i64 0, Value.int IntKind.i64 0, Value.int IntKind.i64 0, Value.int IntKind.i64 1, Value.int IntKind.i64 1, Value.int IntKind.i64 0, Value.int IntKind.i64 0, Value.int IntKind.i64 1, Value.int IntKind.i64 1, Value.int IntKind.i64 1, Value.int IntKind.i64 6, Value.int IntKind.i64 1, Value.int IntKind.i64 1, Value.int IntKind.i64 0, Value.int IntKind.i64 3, Value.int IntKind.i64 1, Value.int IntKind.i64 1, Value.int IntKind.i64 0, Value.int IntKind.i64 3, Value.int IntKind.i64 1, Value.int IntKind.i64 0, Value.int IntKind.i64 0, Value.int IntKind.i64 4, Value.int IntKind.i64 1, Value.int IntKind.i64 0, Value.int IntKind.i64 0, Value.int IntKind.i64 5, Value.int IntKind.i64 1, Value.int IntKind.i64 0, Value.int IntKind.i64 0, Value.int IntKind.i64 5, Value.int IntKind.i64 1, Value.int IntKind.i64 7, Value.int IntKind.i64 0, Value.int IntKind.i64 5, Value.int IntKind.i64 0, Value.int IntKind.i64 0, Value.int IntKind.i64 0, Value.int IntKind.i64 8, Value.int IntKind.i64 1, Value.int IntKind.i64 0, Value.int IntKind.i64 0, Value.int IntKind.i64 8, Value.int IntKind.i64 0, Value.int IntKind.i64 10, Value.int IntKind.i64 11, Value.int IntKind.i64 9, Value.int IntKind.i64 1, Value.int IntKind.i64 0, Value.int IntKind.i64 0, Value.int IntKind.i64 0, Value.int IntKind.i64 1, Value.int IntKind.i64 0, Value.int IntKind.i64 0, Value.int IntKind.i64 0, Value.int IntKind.i64 1, Value.int IntKind.i64 0, Value.int IntKind.i64 0, Value.int IntKind.i64 0, Value.int IntKind.i64 0, Value.int IntKind.i64 0, Value.int IntKind.i64 0, Value.int IntKind.i64 12, Value.int IntKind.i64 1, Value.int IntKind.i64 0, Value.int IntKind.i64 0, Value.int IntKind.i64 0, Value.int IntKind.i64 1, Value.int IntKind.i64 0, Value.int IntKind.i64 0, Value.int IntKind.i64 0, Value.int IntKind.i64 0, Value.int IntKind.i64 0, Value.int IntKind.i64 0, Value.int IntKind.i64 5, Value.int IntKind.i64 0, Value.int IntKind.i64 0, Value.int IntKind.i64 0, Value.int IntKind.i64 13]]) := by kernel_rfl

theorem la_2 (us : List Int) (e : Eff) (h : List O) (o p : Ou) : hrun Tryd.prog kL 5 (((pcs Tryd.prog 3).drop 3).take 2) (laS e h o p [] 7) (laF us []) [true, true, true, true, false, true, true, true, true, true, true, true, true, true, true, false, false] [] ⟨[(3, 3, false), (4, 4, false), (5, 5, false), (6, 6, false)], [], [0, 6, 7, 8, 9], 7, 3, false⟩ =
    some (HX.normal, [(3, HObj.row false (cellsE e) 33), (4, HObj.row false [frz (List.map encO h)] 35), (5, HObj.row false [frz (List.map encA o.fst), Value.bool o.snd.fst, Value.bool o.snd.snd.fst.fst, Value.int IntKind.i64 o.snd.snd.fst.snd, frz (List.map encO o.snd.snd.snd)] 37), (6, HObj.row false [frz (List.map encA p.fst), Value.bool p.snd.fst, Value.bool p.snd.snd.fst.fst, Value.int IntKind.i64 p.snd.snd.fst.snd, frz (List.map encO p.snd.snd.snd)] 37)], [(0, frz (List.map (fun n => Value.int IntKind.u8 n) us)), (6, Value.pointer (some { block := 3, off := 0 })), (7, Value.pointer (some { block := 4, off := 0 })), (8, Value.pointer (some { block := 5, off := 0 })), (9, Value.pointer (some { block := 6, off := 0 }))], [decide (IntKind.wrap IntKind.i64 ((↑(List.length (List.map encO o.snd.snd.snd)) : Int) + (↑(List.length (List.map encO p.snd.snd.snd)) : Int)) > 40) = false, decide ((↑(List.length (List.map encO h)) : Int) > 30) = false, (decide ((↑(List.length (List.map encO h)) : Int) > 30) == false) = true, (decide ((↑(List.length (List.map encO h)) : Int) > 30) == false) = true, (decide ((↑(List.length (List.map encO h)) : Int) > 30) == false) = true, (decide ((↑(List.length (List.map encO h)) : Int) > 30) == false) = true, (decide ((↑(List.length (List.map encO h)) : Int) > 30) == false) = true, (decide ((↑(List.length (List.map encO h)) : Int) > 30) == false) = true, (decide ((↑(List.length (List.map encO h)) : Int) > 30) == false) = true, (decide ((↑(List.length (List.map encO h)) : Int) > 30) == false) = true, (decide ((↑(List.length (List.map encO h)) : Int) > 30) == false) = true, (decide ((↑(List.length (List.map encO h)) : Int) > 30) == false) = true, decide (IntKind.wrap IntKind.i64 ((↑(List.length (List.map encO e.nw)) : Int) + (↑(List.length (List.map encC e.ws)) : Int)) > 40) = false, (decide (IntKind.wrap IntKind.i64 ((↑(List.length (List.map encO e.nw)) : Int) + (↑(List.length (List.map encC e.ws)) : Int)) > 40) == false) = true, (decide (IntKind.wrap IntKind.i64 ((↑(List.length (List.map encO e.nw)) : Int) + (↑(List.length (List.map encC e.ws)) : Int)) > 40) == false) = true, (decide (IntKind.wrap IntKind.i64 ((↑(List.length (List.map encO e.nw)) : Int) + (↑(List.length (List.map encC e.ws)) : Int)) > 40) == false) = true, (decide (IntKind.wrap IntKind.i64 ((↑(List.length (List.map encO e.nw)) : Int) + (↑(List.length (List.map encC e.ws)) : Int)) > 40) == false) = true]) := by kernel_rfl

theorem la_2a (us : List Int) (e : Eff) (h : List O) (o p : Ou) : hrun Tryd.prog kL 5 (((pcs Tryd.prog 3).drop 3).take 2) (laS e h o p [] 7) (laF us []) [false, false, false, false, true, false, false, false, false, false, false, false, false, false, false, true, true] [] ⟨[(3, 3, false)], [], [10], 4, 3, false⟩ =
    some (HX.ret, [(3, HObj.row false (cellsE e) 33)], [(10, Value.bool true)], [true = true, true = true, (true == false) = false, (true == false) = false, (true == false) = false, (true == false) = false, (true == false) = false, (true == false) = false, (true == false) = false, (true == false) = false, (true == false) = false, (true == false) = false, decide (IntKind.wrap IntKind.i64 ((↑(List.length (List.map encO e.nw)) : Int) + (↑(List.length (List.map encC e.ws)) : Int)) > 40) = true, (decide (IntKind.wrap IntKind.i64 ((↑(List.length (List.map encO e.nw)) : Int) + (↑(List.length (List.map encC e.ws)) : Int)) > 40) == false) = false, (decide (IntKind.wrap IntKind.i64 ((↑(List.length (List.map encO e.nw)) : Int) + (↑(List.length (List.map encC e.ws)) : Int)) > 40) == false) = false, (decide (IntKind.wrap IntKind.i64 ((↑(List.length (List.map encO e.nw)) : Int) + (↑(List.length (List.map encC e.ws)) : Int)) > 40) == false) = false, (decide (IntKind.wrap IntKind.i64 ((↑(List.length (List.map encO e.nw)) : Int) + (↑(List.length (List.map encC e.ws)) : Int)) > 40) == false) = false]) := by kernel_rfl

theorem la_2b (us : List Int) (e : Eff) (h : List O) (o p : Ou) : hrun Tryd.prog kL 5 (((pcs Tryd.prog 3).drop 3).take 2) (laS e h o p [] 7) (laF us []) [true, true, true, true, false, false, false, false, false, false, false, false, false, false, false, true, true] [] ⟨[(3, 3, false)], [], [10], 4, 3, false⟩ =
    some (HX.ret, [(3, HObj.row false (cellsE e) 33)], [(10, Value.bool true)], [true = true, decide ((↑(List.length (List.map encO h)) : Int) > 30) = true, (decide ((↑(List.length (List.map encO h)) : Int) > 30) == false) = false, (decide ((↑(List.length (List.map encO h)) : Int) > 30) == false) = false, (decide ((↑(List.length (List.map encO h)) : Int) > 30) == false) = false, (decide ((↑(List.length (List.map encO h)) : Int) > 30) == false) = false, (decide ((↑(List.length (List.map encO h)) : Int) > 30) == false) = false, (decide ((↑(List.length (List.map encO h)) : Int) > 30) == false) = false, (decide ((↑(List.length (List.map encO h)) : Int) > 30) == false) = false, (decide ((↑(List.length (List.map encO h)) : Int) > 30) == false) = false, (decide ((↑(List.length (List.map encO h)) : Int) > 30) == false) = false, (decide ((↑(List.length (List.map encO h)) : Int) > 30) == false) = false, decide (IntKind.wrap IntKind.i64 ((↑(List.length (List.map encO e.nw)) : Int) + (↑(List.length (List.map encC e.ws)) : Int)) > 40) = false, (decide (IntKind.wrap IntKind.i64 ((↑(List.length (List.map encO e.nw)) : Int) + (↑(List.length (List.map encC e.ws)) : Int)) > 40) == false) = true, (decide (IntKind.wrap IntKind.i64 ((↑(List.length (List.map encO e.nw)) : Int) + (↑(List.length (List.map encC e.ws)) : Int)) > 40) == false) = true, (decide (IntKind.wrap IntKind.i64 ((↑(List.length (List.map encO e.nw)) : Int) + (↑(List.length (List.map encC e.ws)) : Int)) > 40) == false) = true, (decide (IntKind.wrap IntKind.i64 ((↑(List.length (List.map encO e.nw)) : Int) + (↑(List.length (List.map encC e.ws)) : Int)) > 40) == false) = true]) := by kernel_rfl

theorem la_2c (us : List Int) (e : Eff) (h : List O) (o p : Ou) : hrun Tryd.prog kL 5 (((pcs Tryd.prog 3).drop 3).take 2) (laS e h o p [] 7) (laF us []) [true, true, true, true, false, true, true, true, true, true, true, true, true, true, true, false, true] [] ⟨[(3, 3, false)], [], [10], 4, 3, false⟩ =
    some (HX.ret, [(3, HObj.row false (cellsE e) 33)], [(10, Value.bool true)], [decide (IntKind.wrap IntKind.i64 ((↑(List.length (List.map encO o.snd.snd.snd)) : Int) + (↑(List.length (List.map encO p.snd.snd.snd)) : Int)) > 40) = true, decide ((↑(List.length (List.map encO h)) : Int) > 30) = false, (decide ((↑(List.length (List.map encO h)) : Int) > 30) == false) = true, (decide ((↑(List.length (List.map encO h)) : Int) > 30) == false) = true, (decide ((↑(List.length (List.map encO h)) : Int) > 30) == false) = true, (decide ((↑(List.length (List.map encO h)) : Int) > 30) == false) = true, (decide ((↑(List.length (List.map encO h)) : Int) > 30) == false) = true, (decide ((↑(List.length (List.map encO h)) : Int) > 30) == false) = true, (decide ((↑(List.length (List.map encO h)) : Int) > 30) == false) = true, (decide ((↑(List.length (List.map encO h)) : Int) > 30) == false) = true, (decide ((↑(List.length (List.map encO h)) : Int) > 30) == false) = true, (decide ((↑(List.length (List.map encO h)) : Int) > 30) == false) = true, decide (IntKind.wrap IntKind.i64 ((↑(List.length (List.map encO e.nw)) : Int) + (↑(List.length (List.map encC e.ws)) : Int)) > 40) = false, (decide (IntKind.wrap IntKind.i64 ((↑(List.length (List.map encO e.nw)) : Int) + (↑(List.length (List.map encC e.ws)) : Int)) > 40) == false) = true, (decide (IntKind.wrap IntKind.i64 ((↑(List.length (List.map encO e.nw)) : Int) + (↑(List.length (List.map encC e.ws)) : Int)) > 40) == false) = true, (decide (IntKind.wrap IntKind.i64 ((↑(List.length (List.map encO e.nw)) : Int) + (↑(List.length (List.map encC e.ws)) : Int)) > 40) == false) = true, (decide (IntKind.wrap IntKind.i64 ((↑(List.length (List.map encO e.nw)) : Int) + (↑(List.length (List.map encC e.ws)) : Int)) > 40) == false) = true]) := by kernel_rfl

def laD (us : List Int) (a : Int) : Nat × HObj := (7, .row false (dice us a) 67)
theorem la_3a (us : List Int) (e : Eff) (h x : List O) (o p : Ou) (a : Int) : hrun Tryd.prog kL 5 (((pcs Tryd.prog 3).drop 5).take 1) (laS e h o p [] 7) (laF us []) [true] [[encH x, encU (us.take 200), .int .i64 a]] ⟨[(3, 3, false), (4, 4, false), (5, 5, false), (6, 6, false), (8, 7, false)], [], [6, 7, 8, 9, 11], 8, 3, false⟩ =
    some (HX.normal, [(3, HObj.row false (cellsE e) 33), (4, HObj.row false [frz (List.map encO h)] 35), (5, HObj.row false [frz (List.map encA o.fst), Value.bool o.snd.fst, Value.bool o.snd.snd.fst.fst, Value.int IntKind.i64 o.snd.snd.fst.snd, frz (List.map encO o.snd.snd.snd)] 37), (6, HObj.row false [frz (List.map encA p.fst), Value.bool p.snd.fst, Value.bool p.snd.snd.fst.fst, Value.int IntKind.i64 p.snd.snd.fst.snd, frz (List.map encO p.snd.snd.snd)] 37), (7, HObj.row false [frz (List.map encO x)] 35)], [(6, Value.pointer (some { block := 3, off := 0 })), (7, Value.pointer (some { block := 4, off := 0 })), (8, Value.pointer (some { block := 5, off := 0 })), (9, Value.pointer (some { block := 6, off := 0 })), (11, Value.pointer (some { block := 7, off := 0 }))], [relHp [frz (List.take 200 (List.drop 0 (List.map (fun n => Value.int IntKind.u8 n) us))), Value.int IntKind.i64 0] [] (Value.agg { toList := [frz (List.map encO x)] }) [frz (List.map (fun n => Value.int IntKind.u8 n) (List.take 200 us)), Value.int IntKind.i64 a], (posO none && decide (0 ≤ 200) && (Nat.ble 200 (List.length (List.map (fun n => Value.int IntKind.u8 n) us)) && Nat.ble 0 200)) = true ∧ (List.map (fun n => Value.int IntKind.u8 n) us = [] ∨ ∀ (v : Value), v ∈ List.map (fun n => Value.int IntKind.u8 n) us → Array.size (Value.cells v) = 1), decide ((↑(List.length (List.map (fun n => Value.int IntKind.u8 n) us)) : Int) > 200) = true]) := by kernel_rfl

theorem la_3b (us : List Int) (e : Eff) (h x : List O) (o p : Ou) (a : Int) : hrun Tryd.prog kL 5 (((pcs Tryd.prog 3).drop 5).take 1) (laS e h o p [] 7) (laF us []) [false] [[encH x, encU us, .int .i64 a]] ⟨[(3, 3, false), (4, 4, false), (5, 5, false), (6, 6, false), (8, 7, false)], [], [6, 7, 8, 9, 11], 8, 3, false⟩ =
    some (HX.normal, [(3, HObj.row false (cellsE e) 33), (4, HObj.row false [frz (List.map encO h)] 35), (5, HObj.row false [frz (List.map encA o.fst), Value.bool o.snd.fst, Value.bool o.snd.snd.fst.fst, Value.int IntKind.i64 o.snd.snd.fst.snd, frz (List.map encO o.snd.snd.snd)] 37), (6, HObj.row false [frz (List.map encA p.fst), Value.bool p.snd.fst, Value.bool p.snd.snd.fst.fst, Value.int IntKind.i64 p.snd.snd.fst.snd, frz (List.map encO p.snd.snd.snd)] 37), (7, HObj.row false [frz (List.map encO x)] 35)], [(6, Value.pointer (some { block := 3, off := 0 })), (7, Value.pointer (some { block := 4, off := 0 })), (8, Value.pointer (some { block := 5, off := 0 })), (9, Value.pointer (some { block := 6, off := 0 })), (11, Value.pointer (some { block := 7, off := 0 }))], [relHp [frz (List.map (fun n => Value.int IntKind.u8 n) us), Value.int IntKind.i64 0] [] (Value.agg { toList := [frz (List.map encO x)] }) [frz (List.map (fun n => Value.int IntKind.u8 n) us), Value.int IntKind.i64 a], decide ((↑(List.length (List.map (fun n => Value.int IntKind.u8 n) us)) : Int) > 200) = false]) := by kernel_rfl

def laE (e : Eff) (h x : List O) (o p : Ou) (l : List (Nat × HObj)) : St := laS e h o p ([(7, .row false [encOs x] 35)] ++ l) 8
theorem la_4 (e : Eff) (h x : List O) (o p : Ou) : hrun Tryd.prog kL 5 (((pcs Tryd.prog 3).drop 6).take 1) (laE e h x o p []) (mkF [(6, .pointer (some ⟨3, 0, none⟩)), (7, .pointer (some ⟨4, 0, none⟩)), (8, .pointer (some ⟨5, 0, none⟩)), (9, .pointer (some ⟨6, 0, none⟩)), (11, .pointer (some ⟨7, 0, none⟩))] 81) [] [[encH h]] ⟨[(3, 3, false), (4, 4, false), (5, 5, false), (6, 6, false), (7, 7, false), (8, 8, false)], [], [6, 7, 8, 9, 11, 12], 9, 3, false⟩ =
    some (HX.normal, [(3, HObj.row false (cellsE e) 33), (4, HObj.row false [frz (List.map encO h)] 35), (5, HObj.row false [frz (List.map encA o.fst), Value.bool o.snd.fst, Value.bool o.snd.snd.fst.fst, Value.int IntKind.i64 o.snd.snd.fst.snd, frz (List.map encO o.snd.snd.snd)] 37), (6, HObj.row false [frz (List.map encA p.fst), Value.bool p.snd.fst, Value.bool p.snd.snd.fst.fst, Value.int IntKind.i64 p.snd.snd.fst.snd, frz (List.map encO p.snd.snd.snd)] 37), (7, HObj.row false [frz (List.map encO x)] 35), (8, HObj.row false [frz (List.map encO h)] 35)], [(6, Value.pointer (some { block := 3, off := 0 })), (7, Value.pointer (some { block := 4, off := 0 })), (8, Value.pointer (some { block := 5, off := 0 })), (9, Value.pointer (some { block := 6, off := 0 })), (11, Value.pointer (some { block := 7, off := 0 })), (12, Value.pointer (some { block := 8, off := 0 }))], [relKh [Value.agg { toList := [frz (List.map encO h)] }] (Value.agg { toList := [frz (List.map encO h)] })]) := by kernel_rfl

theorem la_5 (e : Eff) (h x : List O) (o p : Ou) (c : Bool) (u v : List O) : hrun Tryd.prog kL 5 ((pcs Tryd.prog 3).drop 7) (laS e h o p [(7, .row false [encOs x] 35), (8, .row false [encOs h] 35)] 9) (mkF [(6, .pointer (some ⟨3, 0, none⟩)), (7, .pointer (some ⟨4, 0, none⟩)), (8, .pointer (some ⟨5, 0, none⟩)), (9, .pointer (some ⟨6, 0, none⟩)), (11, .pointer (some ⟨7, 0, none⟩)), (12, .pointer (some ⟨8, 0, none⟩))] 81) (List.replicate 60 true) [[encH u], [encH u], [.bool true], [encH v], [encH v], [.bool true], [.bool true], [.bool c], [.bool c], [.bool true]] ⟨[(3, 3, false)], [], [10], 4, 3, false⟩ =
    some (HX.ret, [(3, HObj.row false (cellsE e) 33)], [(10, Value.bool true)], [(c == c) = true, relOu [Value.agg { toList := [frz (List.map encA o.fst), Value.bool o.snd.fst, Value.bool o.snd.snd.fst.fst, Value.int IntKind.i64 o.snd.snd.fst.snd, frz (List.map encO o.snd.snd.snd)] }, Value.agg { toList := [frz (List.map encA o.fst), Value.bool o.snd.fst, Value.bool o.snd.snd.fst.fst, Value.int IntKind.i64 o.snd.snd.fst.snd, frz (List.map encO o.snd.snd.snd)] }] (Value.bool true), ((c == c) == true) = true, ((c == c) == true) = true, ((c == c) == true) = true, true = true, (true == true) = true, relOu [Value.agg { toList := [frz (List.map encA o.fst), Value.bool o.snd.fst, Value.bool o.snd.snd.fst.fst, Value.int IntKind.i64 o.snd.snd.fst.snd, frz (List.map encO o.snd.snd.snd)] }, Value.agg { toList := [frz (List.map encA p.fst), Value.bool p.snd.fst, Value.bool p.snd.snd.fst.fst, Value.int IntKind.i64 p.snd.snd.fst.snd, frz (List.map encO p.snd.snd.snd)] }] (Value.bool c), (true == true) = true, relOu [Value.agg { toList := [frz (List.map encA o.fst), Value.bool o.snd.fst, Value.bool o.snd.snd.fst.fst, Value.int IntKind.i64 o.snd.snd.fst.snd, frz (List.map encO o.snd.snd.snd)] }, Value.agg { toList := [frz (List.map encA p.fst), Value.bool p.snd.fst, Value.bool p.snd.snd.fst.fst, Value.int IntKind.i64 p.snd.snd.fst.snd, frz (List.map encO p.snd.snd.snd)] }] (Value.bool c), (true == true) = true, (true == true) = true, (true == true) = true, (true == true) = true, (true == true) = true, true = true, relSm [Value.agg { toList := [frz (List.map encO h)] }, Value.agg { toList := [frz (List.map encO h)] }] (Value.bool true), (true == true) = true, (true == true) = true, (true == true) = true, true = true, relSm [Value.agg { toList := [frz (List.map encO v)] }, Value.agg { toList := [frz (List.map encO v)] }] (Value.bool true), (true == true) = true, relMa [Value.agg { toList := [frz (List.map encO x)] }, Value.agg { toList := (cellsE e) }] (Value.agg { toList := [frz (List.map encO v)] }), (true == true) = true, relMa [Value.agg { toList := [frz (List.map encO x)] }, Value.agg { toList := (cellsE e) }] (Value.agg { toList := [frz (List.map encO v)] }), (true == true) = true, (true == true) = true, (true == true) = true, (true == true) = true, (true == true) = true, relSm [Value.agg { toList := [frz (List.map encO u)] }, Value.agg { toList := [frz (List.map encO u)] }] (Value.bool true), relMa [Value.agg { toList := [frz (List.map encO h)] }, Value.agg { toList := (cellsE e) }] (Value.agg { toList := [frz (List.map encO u)] }), relMa [Value.agg { toList := [frz (List.map encO h)] }, Value.agg { toList := (cellsE e) }] (Value.agg { toList := [frz (List.map encO u)] })]) := by kernel_rfl

theorem la_f (c : List Value) : hfin Tryd.prog Tryd.f3 (mkSt [(3, .row false c 33)] 4 3) (mkF [(10, .bool true)] 81) [] ⟨[], [], [], 3, 3, false⟩ =
    some (Value.bool true, [], []) := by kernel_rfl

end Go.Proofs.MA

namespace Go.Proofs.MA
open Go Go.Hx Go.RowKit Go.Proofs
set_option maxRecDepth 100000

theorem kSn_ok : CallOK Tryd.prog kSn := hcall_sound noGT 300 noK_ok (recDk_ok noGT (hcall_sound noGT 300 noK_ok noD_ok 20) 20) 40
theorem sane_ok : CallOK Tryd.prog (runK 4 tableV 3 (.bool true)) := by
  have h := sane_run
  cases hr : kSn 4 [] (globS tableV 3) with
  | none => rw [hr] at h; cases h
  | some r =>
    obtain ⟨v, s1⟩ := r
    rw [hr] at h
    unfold isT at h
    split at h
    · rename_i s2 he
      cases he
      exact runK_ok kSn_ok hr (by simpa using h) (by decide) (by kernel_rfl)
    · cases h
theorem kL_ok : CallOK Tryd.prog kL := by
  refine orK_ok sane_ok (orK_ok (specK_ok fun g rel hm args v h _ _ => ?_) (orK_ok (rowK_ok fun g rel hm c rest v c' h => ?_) kIn_ok))
  · simp only [List.mem_cons, Prod.mk.injEq, List.mem_nil_iff, or_false] at hm
    rcases hm with ⟨rfl, rfl⟩ | ⟨rfl, rfl⟩ | ⟨rfl, rfl⟩ | ⟨rfl, rfl⟩ | ⟨rfl, rfl⟩ | ⟨rfl, rfl⟩
    · exact relKh_ok args v h
    · exact relSm_ok args v h
    · exact relMa_ok args v h
    · exact relAp_ok args v h
    · obtain ⟨a, b, h1, h2, rfl, rfl⟩ := h
      exact mu_ok a b h1 h2
    · obtain ⟨a, b, h1, h2, rfl, rfl⟩ := h
      exact su_ok a b h1 h2
  · simp only [List.mem_cons, Prod.mk.injEq, List.mem_nil_iff, or_false] at hm
    obtain ⟨rfl, rfl⟩ := hm
    obtain ⟨us, a, h1, rfl, rfl, rfl, rfl⟩ := h
    exact hp_ok us h1 a

theorem law_ok (us : List Int) (e : Eff) (h : List O) (o p : Ou) (n1 : e.nw.length ≤ 281474976710656) (n2 : e.ws.length ≤ 281474976710656) (n3 : o.2.2.2.length ≤ 281474976710656) (n4 : p.2.2.2.length ≤ 281474976710656)
    (v1 : ∀ x ∈ e.nw, SmV x.2) (v2 : ∀ x ∈ h, SmV x.2) (v3 : ∀ x ∈ o.2.2.2, SmV x.2) (n5 : o.1.length ≤ 9000000000000000000) :
    FnEx Tryd.prog 3 [encU us, encE e, encH h, encOu o, encOu p] laG (fun u _ => u = .bool true) := by
  have e1 : (List.map encO e.nw).length = e.nw.length := List.length_map ..
  have e2 : (List.map encC e.ws).length = e.ws.length := List.length_map ..
  have e3 : (List.map encO h).length = h.length := List.length_map ..
  have e4 : (List.map encO o.2.2.2).length = o.2.2.2.length := List.length_map ..
  have e5 : (List.map encO p.2.2.2).length = p.2.2.2.length := List.length_map ..
  have w1 : IntKind.wrap IntKind.i64 (((List.map encO e.nw).length : Int) + ((List.map encC e.ws).length : Int)) = ((e.nw.length + e.ws.length : Nat) : Int) := by rw [e1, e2, IntWalk.i64_in _ (by omega)]; simp
  have w2 : IntKind.wrap IntKind.i64 (((List.map encO o.2.2.2).length : Int) + ((List.map encO p.2.2.2).length : Int)) = ((o.2.2.2.length + p.2.2.2.length : Nat) : Int) := by rw [e4, e5, IntWalk.i64_in _ (by omega)]; simp
  refine FnEx.enter (n0 := 3) (fn := Tryd.f3) (c := bodyOf Tryd.prog 3) Tryd.func3 (by kernel_rfl) rfl rfl ?_
  show Ex _ _ (pcs Tryd.prog 3) _ _ _
  refine Ex.stepN noGT kL_ok 3 81 3 7 (la_1 us e h o p) rfl (.cons rfl (.cons rfl .nil)) ?_
  have last : FinQ Tryd.prog Tryd.f3 3 (fun u _ => u = .bool true) .ret (mkSt [(3, .row false (cellsE e) 33)] 4 3) (mkF [(10, .bool true)] 81) := FinQ.mk' (.inr rfl) (la_f (cellsE e)) rfl .nil rfl
  show Ex Tryd.prog 3 ((pcs Tryd.prog 3).drop 3) (laS e h o p [] 7) (laF us []) _
  by_cases c1 : e.nw.length + e.ws.length > 40
  · have d1 : decide (IntKind.wrap IntKind.i64 (((List.map encO e.nw).length : Int) + ((List.map encC e.ws).length : Int)) > 40) = true := by rw [w1]; simp; omega
    refine Ex.stepN noGT kL_ok 2 81 3 4 (la_2a us e h o p) rfl ?_ last
    rw [d1]
    repeat' refine allP.cons ?_ ?_
    all_goals first | exact allP.nil | rfl
  · have d1 : decide (IntKind.wrap IntKind.i64 (((List.map encO e.nw).length : Int) + ((List.map encC e.ws).length : Int)) > 40) = false := by rw [w1]; simp; omega
    by_cases c2 : h.length > 30
    · have d2 : decide (((List.map encO h).length : Int) > 30) = true := by rw [e3]; simp; omega
      refine Ex.stepN noGT kL_ok 2 81 3 4 (la_2b us e h o p) rfl ?_ last
      rw [d1, d2]
      repeat' refine allP.cons ?_ ?_
      all_goals first | exact allP.nil | rfl
    · have d2 : decide (((List.map encO h).length : Int) > 30) = false := by rw [e3]; simp; omega
      by_cases c3 : o.2.2.2.length + p.2.2.2.length > 40
      · have d3 : decide (IntKind.wrap IntKind.i64 (((List.map encO o.2.2.2).length : Int) + ((List.map encO p.2.2.2).length : Int)) > 40) = true := by rw [w2]; simp; omega
        refine Ex.stepN noGT kL_ok 2 81 3 4 (la_2c us e h o p) rfl ?_ last
        rw [d1, d2, d3]
        repeat' refine allP.cons ?_ ?_
        all_goals first | exact allP.nil | rfl
      · have d3 : decide (IntKind.wrap IntKind.i64 (((List.map encO o.2.2.2).length : Int) + ((List.map encO p.2.2.2).length : Int)) > 40) = false := by rw [w2]; simp; omega
        refine Ex.stepN noGT kL_ok 2 81 3 7 (la_2 us e h o p) rfl (by
          rw [d1, d2, d3]
          repeat' refine allP.cons ?_ ?_
          all_goals first | exact allP.nil | rfl) ?_
        show Ex Tryd.prog 3 ((pcs Tryd.prog 3).drop 5) (laS e h o p [] 7) (laF us []) _
        have hh : SmB 30 h := ⟨by omega, v2⟩
        have hsh : SmO h := ⟨by omega, v2⟩
        have rest : ∀ x : List O, SmB 10 x → Ex Tryd.prog 3 ((pcs Tryd.prog 3).drop 6) (laE e h x o p []) (mkF [(6, .pointer (some ⟨3, 0, none⟩)), (7, .pointer (some ⟨4, 0, none⟩)), (8, .pointer (some ⟨5, 0, none⟩)), (9, .pointer (some ⟨6, 0, none⟩)), (11, .pointer (some ⟨7, 0, none⟩))] 81) (FinQ Tryd.prog Tryd.f3 3 (fun u _ => u = .bool true)) := by
          intro x hx
          have a1 := apO_smb h e 30 hh v1
          have a2 := apO_smb x e 10 hx v1
          have m1 : relMa [encH h, encE e] (encH (apO h e)) := ⟨h, e, ⟨by omega, v2⟩, by omega, v1, by omega, rfl, rfl⟩
          have m2 : relMa [encH x, encE e] (encH (apO x e)) := ⟨x, e, ⟨by have := hx.1; omega, hx.2⟩, by omega, v1, by omega, rfl, rfl⟩
          have s1 : relSm [encH (apO h e), encH (apO h e)] (.bool true) := ⟨_, _, a1.smo (by omega), rfl, by simp⟩
          have s2 : relSm [encH (apO x e), encH (apO x e)] (.bool true) := ⟨_, _, a2.smo (by omega), rfl, by simp⟩
          have s3 : relSm [encH h, encH h] (.bool true) := ⟨_, _, hsh, rfl, by simp⟩
          have o1 : relOu [encOu o, encOu p] (.bool (decide (o = p))) := ⟨_, _, n5, ⟨by omega, v3⟩, rfl, rfl⟩
          have o2 : relOu [encOu o, encOu o] (.bool true) := ⟨_, _, n5, ⟨by omega, v3⟩, rfl, by simp⟩
          have cc : (decide (o = p) == decide (o = p)) = true := by simp
          have cc2 : ((decide (o = p) == decide (o = p)) == true) = true := by simp
          refine Ex.stepN noGT kL_ok 1 81 3 9 (la_4 e h x o p) rfl (.cons ⟨h, hsh, rfl, rfl⟩ .nil) ?_
          refine Ex.stepN noGT kL_ok 99 81 3 4 (la_5 e h x o p (decide (o = p)) (apO h e) (apO x e)) rfl ?_ last
          repeat' refine allP.cons ?_ ?_
          all_goals first | exact allP.nil | exact cc | exact cc2 | exact o2 | exact o1 | exact s3 | exact s2 | exact m2 | exact s1 | exact m1 | rfl
        by_cases c4 : us.length > 200
        · have hl : (List.map (fun n => Value.int IntKind.u8 n) us).length = us.length := List.length_map ..
          have ht : (us.take 200).length ≤ 1000000 := by rw [List.length_take]; omega
          have p0 : relHp [frz (List.take 200 (List.drop 0 (List.map (fun n => Value.int IntKind.u8 n) us))), .int .i64 0] [] (encH (heapF (us.take 200) 0).1) (dice (us.take 200) (heapF (us.take 200) 0).2) :=
            ⟨us.take 200, 0, ht, by rw [List.drop_zero, ← List.map_take]; rfl, rfl, rfl, rfl⟩
          refine Ex.stepN noGT kL_ok 1 81 3 8 (la_3a us e h (heapF (us.take 200) 0).1 o p (heapF (us.take 200) 0).2) rfl (.cons p0 (.cons ⟨?_, .inr ?_⟩ (.cons ?_ .nil))) (rest _ (heapF_len _ _))
          · rw [hl, Nat.ble_eq_true_of_le (by omega : 200 ≤ us.length)]; rfl
          · intro v hv
            obtain ⟨x, _, rfl⟩ := List.mem_map.1 hv
            rfl
          · rw [hl]; simp; omega
        · have hl : (List.map (fun n => Value.int IntKind.u8 n) us).length = us.length := List.length_map ..
          have p0 : relHp [encU us, .int .i64 0] [] (encH (heapF us 0).1) (dice us (heapF us 0).2) := ⟨us, 0, by omega, rfl, rfl, rfl, rfl⟩
          refine Ex.stepN noGT kL_ok 1 81 3 8 (la_3b us e h (heapF us 0).1 o p (heapF us 0).2) rfl (.cons p0 (.cons ?_ .nil)) (rest _ (heapF_len _ _))
          rw [hl]; simp; omega
end Go.Proofs.MA
