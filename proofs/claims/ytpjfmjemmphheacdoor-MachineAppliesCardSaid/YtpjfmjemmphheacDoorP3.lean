/- MachineApplies: Apply. Conditions: none. -/
import Derived.Test.YtpjfmjemmphheacDoorP2
set_option linter.all false
set_option linter.unusedVariables false
set_option linter.unusedSimpArgs false
namespace Go.Proofs.MA
open Go Go.Hx Go.RowKit Go.Proofs
set_option maxRecDepth 100000

def mapF (l : List (Nat × Value)) : HF := mkF ([(3, .pointer (some ⟨1, 0, none⟩)), (4, .pointer (some ⟨2, 0, none⟩))] ++ l) 13
noncomputable def kMp (x : SpecS) : HCall := orK (specS [x]) kIn

theorem mp_0 (os : List O) (e : Eff) : hrun Tryd.prog kIn 5 ((pcs Tryd.prog 9).take 1) St0 (entF [encH os, encE e] 13) [] [] ⟨[(0, 0, false), (1, 1, false), (2, 2, false)], [], [2, 3, 4], 3, 0, false⟩ =
    some (HX.normal, [(0, HObj.row false [frz (List.map encO os)] 35), (1, HObj.row false (cellsE e) 33), (2, HObj.row false [Value.slice none 0 0] 35)], [(2, Value.pointer (some { block := 0, off := 0 })), (3, Value.pointer (some { block := 1, off := 0 })), (4, Value.pointer (some { block := 2, off := 0 }))], []) := by kernel_rfl

def sp19 (os : List O) (e : Eff) (s : St) : SpecS := (19, [encH os], mkSt (parks os e) 3 0, .pointer (some ⟨4, 0, none⟩), s)
def sp20 (e : Eff) (s t : St) : SpecS := (20, [.pointer (some ⟨4, 0, none⟩), encE e], s, .tuple ⟨[]⟩, t)
def sp21 (os : List O) (e : Eff) (s : St) (u : List O) : SpecS := (21, [.pointer (some ⟨4, 0, none⟩)], s, encH u, mkSt (parksZ os e) 14 0)

theorem mp_1a (os : List O) (e : Eff) (d : List (Int × List Value)) (l : List Int) (mo : List O) : hrun Tryd.prog (kMp (sp19 os e (ldS os e d (.slice none 0 0) (.slice none 0 0) [] 7))) 5 (((pcs Tryd.prog 9).drop 1).take 1) (mkSt (parks os e) 3 0) (mapF [(2, .pointer (some ⟨0, 0, none⟩))]) [] [] ⟨[(0, 0, false), (1, 1, false), (2, 2, false), (3, 3, false), (4, 4, false)], [], [3, 4, 5], 7, 0, false⟩ =
    some (HX.normal, [(0, HObj.row false [frz (List.map encO os)] 35), (1, HObj.row false (cellsE e) 33), (2, HObj.row false [Value.slice none 0 0] 35), (3, HObj.dmap d 2), (4, HObj.row false [Value.map (some 3), Value.slice none 0 0, Value.slice none 0 0] 99)], [(3, Value.pointer (some { block := 1, off := 0 })), (4, Value.pointer (some { block := 2, off := 0 })), (5, Value.pointer (some { block := 4, off := 0 }))], [[Value.agg { toList := [frz (List.map encO os)] }] = [Value.agg { toList := [frz (List.map encO os)] }] ∧ Tr.nd (some (HObj.row false [frz (List.map encO os)] 35)) (Tr.nd (some (HObj.row false (cellsE e) 33)) Tr.lf Tr.lf) (Tr.nd (some (HObj.row false [Value.slice none 0 0] 35)) Tr.lf Tr.lf) = Tr.nd (some (HObj.row false [frz (List.map encO os)] 35)) (Tr.nd (some (HObj.row false (cellsE e) 33)) Tr.lf Tr.lf) (Tr.nd (some (HObj.row false [Value.slice none 0 0] 35)) Tr.lf Tr.lf) ∧ 3 = 3 ∧ 0 = 0]) := by kernel_rfl

theorem mp_1b (os : List O) (e : Eff) (d : List (Int × List Value)) (l : List Int) (mo : List O) : hrun Tryd.prog (kMp (sp19 os e (ldS os e d (odV l) (.slice none 0 0) [odR l] 7))) 5 (((pcs Tryd.prog 9).drop 1).take 1) (mkSt (parks os e) 3 0) (mapF [(2, .pointer (some ⟨0, 0, none⟩))]) [] [] ⟨[(0, 0, false), (1, 1, false), (2, 2, false), (3, 3, false), (4, 4, false), (5, 5, true)], [], [3, 4, 5], 7, 0, false⟩ =
    some (HX.normal, [(0, HObj.row false [frz (List.map encO os)] 35), (1, HObj.row false (cellsE e) 33), (2, HObj.row false [Value.slice none 0 0] 35), (3, HObj.dmap d 2), (4, HObj.row false [Value.map (some 3), Value.slice (some { block := 5, off := 0 }) (List.length l) 9223372036854775809, Value.slice none 0 0] 99), (5, HObj.row true (List.map (fun i => Value.int IntKind.i64 i) l) 2)], [(3, Value.pointer (some { block := 1, off := 0 })), (4, Value.pointer (some { block := 2, off := 0 })), (5, Value.pointer (some { block := 4, off := 0 }))], [[Value.agg { toList := [frz (List.map encO os)] }] = [Value.agg { toList := [frz (List.map encO os)] }] ∧ Tr.nd (some (HObj.row false [frz (List.map encO os)] 35)) (Tr.nd (some (HObj.row false (cellsE e) 33)) Tr.lf Tr.lf) (Tr.nd (some (HObj.row false [Value.slice none 0 0] 35)) Tr.lf Tr.lf) = Tr.nd (some (HObj.row false [frz (List.map encO os)] 35)) (Tr.nd (some (HObj.row false (cellsE e) 33)) Tr.lf Tr.lf) (Tr.nd (some (HObj.row false [Value.slice none 0 0] 35)) Tr.lf Tr.lf) ∧ 3 = 3 ∧ 0 = 0]) := by kernel_rfl

theorem mp_1c (os : List O) (e : Eff) (d : List (Int × List Value)) (l : List Int) (mo : List O) : hrun Tryd.prog (kMp (sp19 os e (ldS os e d (odV l) (moV mo) [odR l, moR mo] 7))) 5 (((pcs Tryd.prog 9).drop 1).take 1) (mkSt (parks os e) 3 0) (mapF [(2, .pointer (some ⟨0, 0, none⟩))]) [] [] ⟨[(0, 0, false), (1, 1, false), (2, 2, false), (3, 3, false), (4, 4, false), (5, 5, true), (6, 6, true)], [], [3, 4, 5], 7, 0, false⟩ =
    some (HX.normal, [(0, HObj.row false [frz (List.map encO os)] 35), (1, HObj.row false (cellsE e) 33), (2, HObj.row false [Value.slice none 0 0] 35), (3, HObj.dmap d 2), (4, HObj.row false [Value.map (some 3), Value.slice (some { block := 5, off := 0 }) (List.length l) 9223372036854775809, Value.slice (some { block := 6, off := 0 }) (List.length mo) 9223372036854775810] 99), (5, HObj.row true (List.map (fun i => Value.int IntKind.i64 i) l) 2), (6, HObj.row true (flatV (List.map encO mo)) 64)], [(3, Value.pointer (some { block := 1, off := 0 })), (4, Value.pointer (some { block := 2, off := 0 })), (5, Value.pointer (some { block := 4, off := 0 }))], [[Value.agg { toList := [frz (List.map encO os)] }] = [Value.agg { toList := [frz (List.map encO os)] }] ∧ Tr.nd (some (HObj.row false [frz (List.map encO os)] 35)) (Tr.nd (some (HObj.row false (cellsE e) 33)) Tr.lf Tr.lf) (Tr.nd (some (HObj.row false [Value.slice none 0 0] 35)) Tr.lf Tr.lf) = Tr.nd (some (HObj.row false [frz (List.map encO os)] 35)) (Tr.nd (some (HObj.row false (cellsE e) 33)) Tr.lf Tr.lf) (Tr.nd (some (HObj.row false [Value.slice none 0 0] 35)) Tr.lf Tr.lf) ∧ 3 = 3 ∧ 0 = 0]) := by kernel_rfl

theorem mp_2aa (os : List O) (e : Eff) (d d2 : List (Int × List Value)) (l l2 : List Int) (mo mo2 : List O) : hrun Tryd.prog (kMp (sp20 e (ldS os e d (.slice none 0 0) (.slice none 0 0) [] 7) (memT os e (.dmap d2 2) (.slice none 0 0) (encOs mo2) [] 10))) 5 (((pcs Tryd.prog 9).drop 2).take 1) (ldS os e d (.slice none 0 0) (.slice none 0 0) [] 7) (mapF [(5, .pointer (some ⟨4, 0, none⟩))]) [] [] ⟨[(0, 0, false), (1, 1, false), (2, 2, false), (3, 3, false), (4, 4, false)], [], [4, 5], 10, 0, false⟩ =
    some (HX.normal, [(0, HObj.row false [frz (List.map encO os)] 35), (1, HObj.row false (cellsE e) 33), (2, HObj.row false [Value.slice none 0 0] 35), (3, HObj.dmap d2 2), (4, HObj.row false [Value.map (some 3), Value.slice none 0 0, frz (List.map encO mo2)] 99)], [(4, Value.pointer (some { block := 2, off := 0 })), (5, Value.pointer (some { block := 4, off := 0 }))], [[Value.pointer (some { block := 4, off := 0 }), Value.agg { toList := (cellsE e) }] = [Value.pointer (some { block := 4, off := 0 }), Value.agg { toList := (cellsE e) }] ∧ Tr.nd (some (HObj.row false [frz (List.map encO os)] 35)) (Tr.nd (some (HObj.row false (cellsE e) 33)) (Tr.nd (some (HObj.dmap d 2)) Tr.lf Tr.lf) Tr.lf) (Tr.nd (some (HObj.row false [Value.slice none 0 0] 35)) (Tr.nd (some (HObj.row false [Value.map (some 3), Value.slice none 0 0, Value.slice none 0 0] 99)) Tr.lf Tr.lf) Tr.lf) = Tr.nd (some (HObj.row false [frz (List.map encO os)] 35)) (Tr.nd (some (HObj.row false (cellsE e) 33)) (Tr.nd (some (HObj.dmap d 2)) Tr.lf Tr.lf) Tr.lf) (Tr.nd (some (HObj.row false [Value.slice none 0 0] 35)) (Tr.nd (some (HObj.row false [Value.map (some 3), Value.slice none 0 0, Value.slice none 0 0] 99)) Tr.lf Tr.lf) Tr.lf) ∧ 7 = 7 ∧ 0 = 0]) := by kernel_rfl

theorem mp_2ab (os : List O) (e : Eff) (d d2 : List (Int × List Value)) (l l2 : List Int) (mo mo2 : List O) : hrun Tryd.prog (kMp (sp20 e (ldS os e d (.slice none 0 0) (.slice none 0 0) [] 7) (memT os e (.dmap d2 2) (odW l2) (encOs mo2) [odQ l2] 10))) 5 (((pcs Tryd.prog 9).drop 2).take 1) (ldS os e d (.slice none 0 0) (.slice none 0 0) [] 7) (mapF [(5, .pointer (some ⟨4, 0, none⟩))]) [] [] ⟨[(0, 0, false), (1, 1, false), (2, 2, false), (3, 3, false), (4, 4, false), (9, 9, true)], [], [4, 5], 10, 0, false⟩ =
    some (HX.normal, [(0, HObj.row false [frz (List.map encO os)] 35), (1, HObj.row false (cellsE e) 33), (2, HObj.row false [Value.slice none 0 0] 35), (3, HObj.dmap d2 2), (4, HObj.row false [Value.map (some 3), Value.slice (some { block := 9, off := 0 }) (List.length l2) 9223372036854775809, frz (List.map encO mo2)] 99), (9, HObj.row true (List.map (fun i => Value.int IntKind.i64 i) l2) 2)], [(4, Value.pointer (some { block := 2, off := 0 })), (5, Value.pointer (some { block := 4, off := 0 }))], [[Value.pointer (some { block := 4, off := 0 }), Value.agg { toList := (cellsE e) }] = [Value.pointer (some { block := 4, off := 0 }), Value.agg { toList := (cellsE e) }] ∧ Tr.nd (some (HObj.row false [frz (List.map encO os)] 35)) (Tr.nd (some (HObj.row false (cellsE e) 33)) (Tr.nd (some (HObj.dmap d 2)) Tr.lf Tr.lf) Tr.lf) (Tr.nd (some (HObj.row false [Value.slice none 0 0] 35)) (Tr.nd (some (HObj.row false [Value.map (some 3), Value.slice none 0 0, Value.slice none 0 0] 99)) Tr.lf Tr.lf) Tr.lf) = Tr.nd (some (HObj.row false [frz (List.map encO os)] 35)) (Tr.nd (some (HObj.row false (cellsE e) 33)) (Tr.nd (some (HObj.dmap d 2)) Tr.lf Tr.lf) Tr.lf) (Tr.nd (some (HObj.row false [Value.slice none 0 0] 35)) (Tr.nd (some (HObj.row false [Value.map (some 3), Value.slice none 0 0, Value.slice none 0 0] 99)) Tr.lf Tr.lf) Tr.lf) ∧ 7 = 7 ∧ 0 = 0]) := by kernel_rfl

theorem mp_2bb (os : List O) (e : Eff) (d d2 : List (Int × List Value)) (l l2 : List Int) (mo mo2 : List O) : hrun Tryd.prog (kMp (sp20 e (ldS os e d (odV l) (.slice none 0 0) [odR l] 7) (memT os e (.dmap d2 2) (odW l2) (encOs mo2) [odQ l2] 10))) 5 (((pcs Tryd.prog 9).drop 2).take 1) (ldS os e d (odV l) (.slice none 0 0) [odR l] 7) (mapF [(5, .pointer (some ⟨4, 0, none⟩))]) [] [] ⟨[(0, 0, false), (1, 1, false), (2, 2, false), (3, 3, false), (4, 4, false), (9, 9, true)], [], [4, 5], 10, 0, false⟩ =
    some (HX.normal, [(0, HObj.row false [frz (List.map encO os)] 35), (1, HObj.row false (cellsE e) 33), (2, HObj.row false [Value.slice none 0 0] 35), (3, HObj.dmap d2 2), (4, HObj.row false [Value.map (some 3), Value.slice (some { block := 9, off := 0 }) (List.length l2) 9223372036854775809, frz (List.map encO mo2)] 99), (9, HObj.row true (List.map (fun i => Value.int IntKind.i64 i) l2) 2)], [(4, Value.pointer (some { block := 2, off := 0 })), (5, Value.pointer (some { block := 4, off := 0 }))], [[Value.pointer (some { block := 4, off := 0 }), Value.agg { toList := (cellsE e) }] = [Value.pointer (some { block := 4, off := 0 }), Value.agg { toList := (cellsE e) }] ∧ Tr.nd (some (HObj.row false [frz (List.map encO os)] 35)) (Tr.nd (some (HObj.row false (cellsE e) 33)) (Tr.nd (some (HObj.dmap d 2)) Tr.lf Tr.lf) (Tr.nd (some (HObj.row true (List.map (fun i => Value.int IntKind.i64 i) l) 2)) Tr.lf Tr.lf)) (Tr.nd (some (HObj.row false [Value.slice none 0 0] 35)) (Tr.nd (some (HObj.row false [Value.map (some 3), Value.slice (some { block := 5, off := 0 }) (List.length l) 9223372036854775809, Value.slice none 0 0] 99)) Tr.lf Tr.lf) Tr.lf) = Tr.nd (some (HObj.row false [frz (List.map encO os)] 35)) (Tr.nd (some (HObj.row false (cellsE e) 33)) (Tr.nd (some (HObj.dmap d 2)) Tr.lf Tr.lf) (Tr.nd (some (HObj.row true (List.map (fun i => Value.int IntKind.i64 i) l) 2)) Tr.lf Tr.lf)) (Tr.nd (some (HObj.row false [Value.slice none 0 0] 35)) (Tr.nd (some (HObj.row false [Value.map (some 3), Value.slice (some { block := 5, off := 0 }) (List.length l) 9223372036854775809, Value.slice none 0 0] 99)) Tr.lf Tr.lf) Tr.lf) ∧ 7 = 7 ∧ 0 = 0]) := by kernel_rfl

theorem mp_2cb (os : List O) (e : Eff) (d d2 : List (Int × List Value)) (l l2 : List Int) (mo mo2 : List O) : hrun Tryd.prog (kMp (sp20 e (ldS os e d (odV l) (moV mo) [odR l, moR mo] 7) (memT os e (.dmap d2 2) (odW l2) (encOs mo2) [odQ l2] 10))) 5 (((pcs Tryd.prog 9).drop 2).take 1) (ldS os e d (odV l) (moV mo) [odR l, moR mo] 7) (mapF [(5, .pointer (some ⟨4, 0, none⟩))]) [] [] ⟨[(0, 0, false), (1, 1, false), (2, 2, false), (3, 3, false), (4, 4, false), (9, 9, true)], [], [4, 5], 10, 0, false⟩ =
    some (HX.normal, [(0, HObj.row false [frz (List.map encO os)] 35), (1, HObj.row false (cellsE e) 33), (2, HObj.row false [Value.slice none 0 0] 35), (3, HObj.dmap d2 2), (4, HObj.row false [Value.map (some 3), Value.slice (some { block := 9, off := 0 }) (List.length l2) 9223372036854775809, frz (List.map encO mo2)] 99), (9, HObj.row true (List.map (fun i => Value.int IntKind.i64 i) l2) 2)], [(4, Value.pointer (some { block := 2, off := 0 })), (5, Value.pointer (some { block := 4, off := 0 }))], [[Value.pointer (some { block := 4, off := 0 }), Value.agg { toList := (cellsE e) }] = [Value.pointer (some { block := 4, off := 0 }), Value.agg { toList := (cellsE e) }] ∧ Tr.nd (some (HObj.row false [frz (List.map encO os)] 35)) (Tr.nd (some (HObj.row false (cellsE e) 33)) (Tr.nd (some (HObj.dmap d 2)) Tr.lf Tr.lf) (Tr.nd (some (HObj.row true (List.map (fun i => Value.int IntKind.i64 i) l) 2)) Tr.lf Tr.lf)) (Tr.nd (some (HObj.row false [Value.slice none 0 0] 35)) (Tr.nd (some (HObj.row false [Value.map (some 3), Value.slice (some { block := 5, off := 0 }) (List.length l) 9223372036854775809, Value.slice (some { block := 6, off := 0 }) (List.length mo) 9223372036854775810] 99)) Tr.lf Tr.lf) (Tr.nd (some (HObj.row true (flatV (List.map encO mo)) 64)) Tr.lf Tr.lf)) = Tr.nd (some (HObj.row false [frz (List.map encO os)] 35)) (Tr.nd (some (HObj.row false (cellsE e) 33)) (Tr.nd (some (HObj.dmap d 2)) Tr.lf Tr.lf) (Tr.nd (some (HObj.row true (List.map (fun i => Value.int IntKind.i64 i) l) 2)) Tr.lf Tr.lf)) (Tr.nd (some (HObj.row false [Value.slice none 0 0] 35)) (Tr.nd (some (HObj.row false [Value.map (some 3), Value.slice (some { block := 5, off := 0 }) (List.length l) 9223372036854775809, Value.slice (some { block := 6, off := 0 }) (List.length mo) 9223372036854775810] 99)) Tr.lf Tr.lf) (Tr.nd (some (HObj.row true (flatV (List.map encO mo)) 64)) Tr.lf Tr.lf)) ∧ 7 = 7 ∧ 0 = 0]) := by kernel_rfl

def mapG : HF := mkF [(4, .pointer (some ⟨2, 0, none⟩)), (5, .pointer (some ⟨4, 0, none⟩))] 13
theorem mp_3a (os u : List O) (e : Eff) (d : List (Int × List Value)) (l : List Int) (mo : List O) : hrun Tryd.prog (kMp (sp21 os e (memT os e (.dmap d 2) (.slice none 0 0) (encOs mo) [] 10) u)) 5 ((pcs Tryd.prog 9).drop 3) (memT os e (.dmap d 2) (.slice none 0 0) (encOs mo) [] 10) mapG [] [] ⟨[(2, 0, false)], [], [4], 1, 0, false⟩ =
    some (HX.ret, [(0, HObj.row false [frz (List.map encO u)] 35)], [(4, Value.pointer (some { block := 0, off := 0 }))], [[Value.pointer (some { block := 4, off := 0 })] = [Value.pointer (some { block := 4, off := 0 })] ∧ Tr.nd (some (HObj.row false [frz (List.map encO os)] 35)) (Tr.nd (some (HObj.row false (cellsE e) 33)) (Tr.nd (some (HObj.dmap d 2)) Tr.lf Tr.lf) Tr.lf) (Tr.nd (some (HObj.row false [Value.slice none 0 0] 35)) (Tr.nd (some (HObj.row false [Value.map (some 3), Value.slice none 0 0, frz (List.map encO mo)] 99)) Tr.lf Tr.lf) Tr.lf) = Tr.nd (some (HObj.row false [frz (List.map encO os)] 35)) (Tr.nd (some (HObj.row false (cellsE e) 33)) (Tr.nd (some (HObj.dmap d 2)) Tr.lf Tr.lf) Tr.lf) (Tr.nd (some (HObj.row false [Value.slice none 0 0] 35)) (Tr.nd (some (HObj.row false [Value.map (some 3), Value.slice none 0 0, frz (List.map encO mo)] 99)) Tr.lf Tr.lf) Tr.lf) ∧ 10 = 10 ∧ 0 = 0]) := by kernel_rfl

theorem mp_3b (os u : List O) (e : Eff) (d : List (Int × List Value)) (l : List Int) (mo : List O) : hrun Tryd.prog (kMp (sp21 os e (memT os e (.dmap d 2) (odW l) (encOs mo) [odQ l] 10) u)) 5 ((pcs Tryd.prog 9).drop 3) (memT os e (.dmap d 2) (odW l) (encOs mo) [odQ l] 10) mapG [] [] ⟨[(2, 0, false)], [], [4], 1, 0, false⟩ =
    some (HX.ret, [(0, HObj.row false [frz (List.map encO u)] 35)], [(4, Value.pointer (some { block := 0, off := 0 }))], [[Value.pointer (some { block := 4, off := 0 })] = [Value.pointer (some { block := 4, off := 0 })] ∧ Tr.nd (some (HObj.row false [frz (List.map encO os)] 35)) (Tr.nd (some (HObj.row false (cellsE e) 33)) (Tr.nd (some (HObj.dmap d 2)) Tr.lf Tr.lf) (Tr.nd none (Tr.nd (some (HObj.row true (List.map (fun i => Value.int IntKind.i64 i) l) 2)) Tr.lf Tr.lf) Tr.lf)) (Tr.nd (some (HObj.row false [Value.slice none 0 0] 35)) (Tr.nd (some (HObj.row false [Value.map (some 3), Value.slice (some { block := 9, off := 0 }) (List.length l) 9223372036854775809, frz (List.map encO mo)] 99)) Tr.lf Tr.lf) Tr.lf) = Tr.nd (some (HObj.row false [frz (List.map encO os)] 35)) (Tr.nd (some (HObj.row false (cellsE e) 33)) (Tr.nd (some (HObj.dmap d 2)) Tr.lf Tr.lf) (Tr.nd none (Tr.nd (some (HObj.row true (List.map (fun i => Value.int IntKind.i64 i) l) 2)) Tr.lf Tr.lf) Tr.lf)) (Tr.nd (some (HObj.row false [Value.slice none 0 0] 35)) (Tr.nd (some (HObj.row false [Value.map (some 3), Value.slice (some { block := 9, off := 0 }) (List.length l) 9223372036854775809, frz (List.map encO mo)] 99)) Tr.lf Tr.lf) Tr.lf) ∧ 10 = 10 ∧ 0 = 0]) := by kernel_rfl

theorem mp_f (u : List O) : hfin Tryd.prog Tryd.f9 (mkSt [(0, .row false [encOs u] 35)] 1 0) (mkF [(4, .pointer (some ⟨0, 0, none⟩))] 13) [] ⟨[], [], [], 0, 0, false⟩ =
    some (Value.agg { toList := [frz (List.map encO u)] }, [], []) := by kernel_rfl

end Go.Proofs.MA

namespace Go.Proofs.MA
open Go Go.Hx Go.RowKit Go.Proofs
set_option maxRecDepth 100000

theorem kMp_ok {x : SpecS} (h : FnEx Tryd.prog x.1 x.2.1 x.2.2.1 (fun u t => u = x.2.2.2.1 ∧ t = x.2.2.2.2)) : CallOK Tryd.prog (kMp x) := orK_ok (one_ok h) kIn_ok

theorem new1_keep (m : Me) (o : O) : (new1 m o).od = [] → m.od = [] := by
  unfold new1
  split
  · exact id
  · intro h
    have h : insO m.od o.1 = [] := h
    have := insO_len m.od o.1
    rw [h] at this
    simp at this
theorem wr1M_od (m : Me) (c : C4) : (wr1M m c).od = m.od := by
  unfold wr1M
  split
  · split <;> rfl
  · rfl
theorem apM_keep (os : List O) (e : Eff) : (apM os e).od = [] → (loadM os).od = [] := by
  unfold apM
  generalize loadM os = m
  have h1 : ∀ (l : List C4) (m : Me), (l.foldl wr1M m).od = m.od := by
    intro l
    induction l with
    | nil => intro m; rfl
    | cons c l ih => intro m; rw [List.foldl_cons, ih, wr1M_od]
  have h2 : ∀ (l : List O) (m : Me), (l.foldl new1 m).od = [] → m.od = [] := by
    intro l
    induction l with
    | nil => intro m h; exact h
    | cons c l ih => intro m h; exact new1_keep _ _ (ih _ h)
  rw [h1]
  exact h2 _ _

theorem apO_smb (os : List O) (e : Eff) (n : Nat) (hl : SmB n os) (hnw : ∀ o ∈ e.nw, SmV o.2) : SmB (n + e.nw.length) (apO os e) := by
  unfold apO
  have h1 : ∀ (l : List O) (os : List O) (n : Nat), SmB n os → (∀ o ∈ l, SmV o.2) → SmB (n + l.length) (l.foldl putO os) := by
    intro l
    induction l with
    | nil => intro os n h _; exact h
    | cons o l ih =>
      intro os n h hv
      have := ih _ (n + 1) (putO_smb (o := o) h (hv o List.mem_cons_self)) (fun x hx => hv x (List.mem_cons_of_mem _ hx))
      rw [List.length_cons, show n + (l.length + 1) = n + 1 + l.length by omega]
      exact this
  have h2 : ∀ (l : List C4) (os : List O) (n : Nat), SmB n os → SmB n (l.foldl wr1 os) := by
    intro l
    induction l with
    | nil => intro os n h; exact h
    | cons c l ih => intro os n h; exact ih _ n (wr1_smb h)
  exact h2 _ _ _ (h1 _ _ _ hl hnw)

theorem ma_ok (os : List O) (e : Eff) (n : Nat) (hl : SmB n os) (hn : n + e.nw.length ≤ 100000) (hnw : ∀ o ∈ e.nw, SmV o.2) (hws : e.ws.length ≤ 100000) : FnEx Tryd.prog 9 [encH os, encE e] St0 (fun u _ => u = encH (apO os e)) := by
  have hl1 := hl.1
  have hsm := apO_smb os e n hl hnw
  have hld := ld_ok os e (hl.smo (by omega))
  have hod : (loadM os).od.length = os.length := by rw [loadM_od]; simp
  have hay : FnEx Tryd.prog 20 [.pointer (some ⟨4, 0, none⟩), encE e] (memS os e (loadM os)) (fun u t => u = .tuple ⟨[]⟩ ∧ t = memF os e (apM os e) []) := by
    refine ay_ok os e (loadM os) (fun h => ?_) hnw (by omega) hws
    rw [loadM_nil os h]
    exact ⟨rfl, rfl⟩
  obtain ⟨a1, a2⟩ := apM_heap os e hsm.2
  obtain ⟨a3, a4⟩ := apM_od os e
  have hhe := he_ok os e (apM os e) (fun h => by
    rw [a3] at h
    rw [a4, List.map_eq_nil_iff.1 h]; rfl) (by rw [a3, List.length_map]; have := hsm.1; omega) a2
  rw [a1] at hhe
  have hkeep := apM_keep os e
  have hemp : (loadM os).od = [] → (loadM os).mo = [] := fun h => by
    rw [loadM_nil os h]; rfl
  generalize loadM os = m1 at hld hay hkeep hemp
  generalize apM os e = m2 at hay hhe hkeep
  refine FnEx.enter (n0 := 0) (fn := Tryd.f9) (c := bodyOf Tryd.prog 9) Tryd.func9 (by kernel_rfl) rfl rfl ?_
  show Ex _ _ (pcs Tryd.prog 9) _ _ _
  refine Ex.stepN noGT kIn_ok 1 13 0 3 (mp_0 os e) rfl .nil ?_
  have fin : Ex Tryd.prog 0 ((pcs Tryd.prog 9).drop 3) (memF os e m2 []) mapG (FinQ Tryd.prog Tryd.f9 0 (fun u _ => u = encH (apO os e))) := by
    obtain ⟨d2, od2, mo2⟩ := m2
    have last : FinQ Tryd.prog Tryd.f9 0 (fun u _ => u = encH (apO os e)) .ret (mkSt [(0, .row false [encOs (apO os e)] 35)] 1 0) (mkF [(4, .pointer (some ⟨0, 0, none⟩))] 13) :=
      FinQ.mk' (.inr rfl) (mp_f (apO os e)) rfl .nil rfl
    cases od2 with
    | nil => exact Ex.stepN noGT (kMp_ok (x := sp21 os e (memT os e (.dmap (encD d2) 2) (.slice none 0 0) (encOs mo2) [] 10) (apO os e)) hhe) 99 13 0 1 (mp_3a os (apO os e) e (encD d2) [] mo2) rfl (.cons ⟨rfl, rfl, rfl, rfl⟩ .nil) last
    | cons x l => exact Ex.stepN noGT (kMp_ok (x := sp21 os e (memT os e (.dmap (encD d2) 2) (odW (x :: l)) (encOs mo2) [odQ (x :: l)] 10) (apO os e)) hhe) 99 13 0 1 (mp_3b os (apO os e) e (encD d2) (x :: l) mo2) rfl (.cons ⟨rfl, rfl, rfl, rfl⟩ .nil) last
  have mid : Ex Tryd.prog 0 ((pcs Tryd.prog 9).drop 2) (memS os e m1) (mapF [(5, .pointer (some ⟨4, 0, none⟩))]) (FinQ Tryd.prog Tryd.f9 0 (fun u _ => u = encH (apO os e))) := by
    obtain ⟨d1, od1, mo1⟩ := m1
    obtain ⟨d2, od2, mo2⟩ := m2
    cases od1 with
    | nil =>
      obtain rfl : mo1 = [] := hemp rfl
      cases od2 with
      | nil => exact Ex.stepN noGT (kMp_ok (x := sp20 e (ldS os e (encD d1) (.slice none 0 0) (.slice none 0 0) [] 7) (memT os e (.dmap (encD d2) 2) (.slice none 0 0) (encOs mo2) [] 10)) hay) 1 13 0 10 (mp_2aa os e (encD d1) (encD d2) [] [] [] mo2) rfl (.cons ⟨rfl, rfl, rfl, rfl⟩ .nil) fin
      | cons y l2 => exact Ex.stepN noGT (kMp_ok (x := sp20 e (ldS os e (encD d1) (.slice none 0 0) (.slice none 0 0) [] 7) (memT os e (.dmap (encD d2) 2) (odW (y :: l2)) (encOs mo2) [odQ (y :: l2)] 10)) hay) 1 13 0 10 (mp_2ab os e (encD d1) (encD d2) [] (y :: l2) [] mo2) rfl (.cons ⟨rfl, rfl, rfl, rfl⟩ .nil) fin
    | cons x l1 =>
      cases od2 with
      | nil => exact absurd (hkeep rfl) (by simp)
      | cons y l2 =>
        cases mo1 with
        | nil => exact Ex.stepN noGT (kMp_ok (x := sp20 e (ldS os e (encD d1) (odV (x :: l1)) (.slice none 0 0) [odR (x :: l1)] 7) (memT os e (.dmap (encD d2) 2) (odW (y :: l2)) (encOs mo2) [odQ (y :: l2)] 10)) hay) 1 13 0 10 (mp_2bb os e (encD d1) (encD d2) (x :: l1) (y :: l2) [] mo2) rfl (.cons ⟨rfl, rfl, rfl, rfl⟩ .nil) fin
        | cons z mo1 => exact Ex.stepN noGT (kMp_ok (x := sp20 e (ldS os e (encD d1) (odV (x :: l1)) (moV (z :: mo1)) [odR (x :: l1), moR (z :: mo1)] 7) (memT os e (.dmap (encD d2) 2) (odW (y :: l2)) (encOs mo2) [odQ (y :: l2)] 10)) hay) 1 13 0 10 (mp_2cb os e (encD d1) (encD d2) (x :: l1) (y :: l2) (z :: mo1) mo2) rfl (.cons ⟨rfl, rfl, rfl, rfl⟩ .nil) fin
  show Ex Tryd.prog 0 ((pcs Tryd.prog 9).drop 1) (mkSt (parks os e) 3 0) (mapF [(2, .pointer (some ⟨0, 0, none⟩))]) _
  obtain ⟨d1, od1, mo1⟩ := m1
  cases od1 with
  | nil =>
    obtain rfl : mo1 = [] := hemp rfl
    exact Ex.stepN noGT (kMp_ok (x := sp19 os e (ldS os e (encD d1) (.slice none 0 0) (.slice none 0 0) [] 7)) hld) 1 13 0 7 (mp_1a os e (encD d1) [] []) rfl (.cons ⟨rfl, rfl, rfl, rfl⟩ .nil) mid
  | cons x l1 =>
    cases mo1 with
    | nil => exact Ex.stepN noGT (kMp_ok (x := sp19 os e (ldS os e (encD d1) (odV (x :: l1)) (.slice none 0 0) [odR (x :: l1)] 7)) hld) 1 13 0 7 (mp_1b os e (encD d1) (x :: l1) []) rfl (.cons ⟨rfl, rfl, rfl, rfl⟩ .nil) mid
    | cons z mo1 => exact Ex.stepN noGT (kMp_ok (x := sp19 os e (ldS os e (encD d1) (odV (x :: l1)) (moV (z :: mo1)) [odR (x :: l1), moR (z :: mo1)] 7)) hld) 1 13 0 7 (mp_1c os e (encD d1) (x :: l1) (z :: mo1)) rfl (.cons ⟨rfl, rfl, rfl, rfl⟩ .nil) mid

/-- What Apply is asked about. -/
def relMa : Rel := fun args v => ∃ (os : List O) (e : Eff), SmB 1000 os ∧ e.nw.length ≤ 1000 ∧ (∀ o ∈ e.nw, SmV o.2) ∧ e.ws.length ≤ 1000 ∧ args = [encH os, encE e] ∧ v = encH (apO os e)
theorem relMa_ok : ∀ args v, relMa args v → FnEx Tryd.prog 9 args St0 (fun u _ => u = v) := by
  rintro args v ⟨os, e, h1, h2, h3, h4, rfl, rfl⟩
  exact ma_ok os e 1000 h1 (by omega) h3 (by omega)
theorem relAp_ok : ∀ args v, relMa args v → FnEx Tryd.prog 10 args St0 (fun u _ => u = v) := by
  rintro args v ⟨os, e, h1, h2, h3, h4, rfl, rfl⟩
  exact ap_ok os e 1000 h1 (by omega) h3 (by omega)
end Go.Proofs.MA
