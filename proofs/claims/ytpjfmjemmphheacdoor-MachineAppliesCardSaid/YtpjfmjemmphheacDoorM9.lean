/- MachineApplies: apply up to its second loop. Conditions: none. -/
import Derived.Test.YtpjfmjemmphheacDoorM8
set_option linter.all false
set_option linter.unusedVariables false
set_option linter.unusedSimpArgs false
namespace Go.Proofs.MA
open Go Go.Hx Go.RowKit Go.Proofs
set_option maxRecDepth 100000

theorem ae_A (os : List O) (e : Eff) (d : List (Int × List Value)) (l : List Int) (mo : List O) (k m : Int) (c : C4) : hrun Tryd.prog kIn 5 ((pcs Tryd.prog 20).take 2) (ldS os e d (.slice none 0 0) (frz []) [] 7) (entF [.pointer (some ⟨4, 0, none⟩), encE e] 106) [] [] ⟨[(0, 0, false), (1, 1, false), (2, 2, false), (3, 3, false), (4, 4, false), (7, 7, false)], [], [0, 3, 14, 15, 16], 10, 7, false⟩ =
    some (HX.normal, [(0, HObj.row false [frz (List.map encO os)] 35), (1, HObj.row false (cellsE e) 33), (2, HObj.row false [Value.slice none 0 0] 35), (3, HObj.dmap d 2), (4, HObj.row false [Value.map (some 3), Value.slice none 0 0, frz ([])] 99), (7, HObj.row false (cellsE e) 33)], [(0, Value.pointer (some { block := 4, off := 0 })), (3, Value.pointer (some { block := 7, off := 0 })), (14, frz (List.map encO e.nw)), (15, Value.int IntKind.i64 ↑(List.length (List.map encO e.nw))), (16, Value.int IntKind.i64 0)], []) := by kernel_rfl

theorem ae_B (os : List O) (e : Eff) (d : List (Int × List Value)) (l : List Int) (mo : List O) (k m : Int) (c : C4) : hrun Tryd.prog kIn 5 ((pcs Tryd.prog 20).take 2) (ldS os e d (odV l) (frz []) [odR l] 7) (entF [.pointer (some ⟨4, 0, none⟩), encE e] 106) [] [] ⟨[(0, 0, false), (1, 1, false), (2, 2, false), (3, 3, false), (4, 4, false), (5, 9, true), (7, 7, false)], [], [0, 3, 14, 15, 16], 10, 7, false⟩ =
    some (HX.normal, [(0, HObj.row false [frz (List.map encO os)] 35), (1, HObj.row false (cellsE e) 33), (2, HObj.row false [Value.slice none 0 0] 35), (3, HObj.dmap d 2), (4, HObj.row false [Value.map (some 3), Value.slice (some { block := 9, off := 0 }) (List.length l) 9223372036854775809, frz ([])] 99), (9, HObj.row true (List.map (fun i => Value.int IntKind.i64 i) l) 2), (7, HObj.row false (cellsE e) 33)], [(0, Value.pointer (some { block := 4, off := 0 })), (3, Value.pointer (some { block := 7, off := 0 })), (14, frz (List.map encO e.nw)), (15, Value.int IntKind.i64 ↑(List.length (List.map encO e.nw))), (16, Value.int IntKind.i64 0)], []) := by kernel_rfl

theorem ae_C (os : List O) (e : Eff) (d : List (Int × List Value)) (l : List Int) (mo : List O) (k m : Int) (c : C4) : hrun Tryd.prog kIn 5 ((pcs Tryd.prog 20).take 2) (ldS os e d (odV l) (moV mo) [odR l, moR mo] 7) (entF [.pointer (some ⟨4, 0, none⟩), encE e] 106) [] [] ⟨[(0, 0, false), (1, 1, false), (2, 2, false), (3, 3, false), (4, 4, false), (5, 9, true), (7, 7, false)], [(6, 2, mo.map encO)], [0, 3, 14, 15, 16], 10, 7, false⟩ =
    some (HX.normal, [(0, HObj.row false [frz (List.map encO os)] 35), (1, HObj.row false (cellsE e) 33), (2, HObj.row false [Value.slice none 0 0] 35), (3, HObj.dmap d 2), (4, HObj.row false [Value.map (some 3), Value.slice (some { block := 9, off := 0 }) (List.length l) 9223372036854775809, frz (List.map encO mo)] 99), (9, HObj.row true (List.map (fun i => Value.int IntKind.i64 i) l) 2), (7, HObj.row false (cellsE e) 33)], [(0, Value.pointer (some { block := 4, off := 0 })), (3, Value.pointer (some { block := 7, off := 0 })), (14, frz (List.map encO e.nw)), (15, Value.int IntKind.i64 ↑(List.length (List.map encO e.nw))), (16, Value.int IntKind.i64 0)], [flatV (List.map encO mo) = flatV (List.map encO mo) ∧ (∀ (v : Value), v ∈ List.map encO mo → Array.size (Value.cells v) = 2) ∧ 0 < 2, List.length mo = List.length (List.map encO mo)]) := by kernel_rfl

def azF (e : Eff) (k : Int) : HF := mkF [(0, .pointer (some ⟨4, 0, none⟩)), (3, .pointer (some ⟨7, 0, none⟩)), (68, frz (e.ws.map encC)), (69, .int .i64 e.ws.length), (70, .int .i64 k)] 106
def ayG : HF := mkF [(0, .pointer (some ⟨4, 0, none⟩)), (3, .pointer (some ⟨7, 0, none⟩))] 106

theorem ae_x1 (os : List O) (e : Eff) (d : List (Int × List Value)) (l : List Int) (mo : List O) (k m : Int) (c : C4) : hrun Tryd.prog kIn 5 (flatC (loopIn (nth (pcs Tryd.prog 20) 2))) (ayS os e d (.slice none 0 0) mo []) (ayF e k) [false] [] ⟨[(0, 0, false), (1, 1, false), (2, 2, false), (3, 3, false), (4, 4, false), (7, 7, false)], [], [0, 3], 10, 7, false⟩ =
    some (HX.exit 0, [(0, HObj.row false [frz (List.map encO os)] 35), (1, HObj.row false (cellsE e) 33), (2, HObj.row false [Value.slice none 0 0] 35), (3, HObj.dmap d 2), (4, HObj.row false [Value.map (some 3), Value.slice none 0 0, frz (List.map encO mo)] 99), (7, HObj.row false (cellsE e) 33)], [(0, Value.pointer (some { block := 4, off := 0 })), (3, Value.pointer (some { block := 7, off := 0 }))], [decide (k < ↑(List.length e.nw)) = false]) := by kernel_rfl

theorem ae_m1 (os : List O) (e : Eff) (d : List (Int × List Value)) (l : List Int) (mo : List O) (k m : Int) (c : C4) : hrun Tryd.prog kIn 5 (((pcs Tryd.prog 20).drop 3).take 1) (ayS os e d (.slice none 0 0) mo []) ayG [] [] ⟨[(0, 0, false), (1, 1, false), (2, 2, false), (3, 3, false), (4, 4, false), (7, 7, false)], [], [0, 3, 68, 69, 70], 10, 7, false⟩ =
    some (HX.normal, [(0, HObj.row false [frz (List.map encO os)] 35), (1, HObj.row false (cellsE e) 33), (2, HObj.row false [Value.slice none 0 0] 35), (3, HObj.dmap d 2), (4, HObj.row false [Value.map (some 3), Value.slice none 0 0, frz (List.map encO mo)] 99), (7, HObj.row false (cellsE e) 33)], [(0, Value.pointer (some { block := 4, off := 0 })), (3, Value.pointer (some { block := 7, off := 0 })), (68, frz (List.map encC e.ws)), (69, Value.int IntKind.i64 ↑(List.length (List.map encC e.ws))), (70, Value.int IntKind.i64 0)], []) := by kernel_rfl

theorem ae_y1 (os : List O) (e : Eff) (d : List (Int × List Value)) (l : List Int) (mo : List O) (k m : Int) (c : C4) : hrun Tryd.prog kIn 5 (flatC (loopIn (nth (pcs Tryd.prog 20) 4))) (ayS os e d (.slice none 0 0) mo []) (azF e k) [false] [] ⟨[(0, 0, false), (1, 1, false), (2, 2, false), (3, 3, false), (4, 4, false), (7, 7, false)], [], [], 10, 7, false⟩ =
    some (HX.exit 2, [(0, HObj.row false [frz (List.map encO os)] 35), (1, HObj.row false (cellsE e) 33), (2, HObj.row false [Value.slice none 0 0] 35), (3, HObj.dmap d 2), (4, HObj.row false [Value.map (some 3), Value.slice none 0 0, frz (List.map encO mo)] 99), (7, HObj.row false (cellsE e) 33)], [], [decide (k < ↑(List.length e.ws)) = false]) := by kernel_rfl

theorem ae_n1 (os : List O) (e : Eff) (d : List (Int × List Value)) (l : List Int) (mo : List O) (k m : Int) (c : C4) : hrun Tryd.prog kIn 5 (flatC (loopIn (nth (pcs Tryd.prog 20) 4))) (ayS os e d (.slice none 0 0) mo []) (azF e k) [true, false, false, false, false, false, false, false, false, false, false, false] [[encC c]] ⟨[(0, 0, false), (1, 1, false), (2, 2, false), (3, 3, false), (4, 4, false), (7, 7, false)], [], [0, 3, 68, 69, 70], 10, 7, false⟩ =
    some (HX.normal, [(0, HObj.row false [frz (List.map encO os)] 35), (1, HObj.row false (cellsE e) 33), (2, HObj.row false [Value.slice none 0 0] 35), (3, HObj.dmap d 2), (4, HObj.row false [Value.map (some 3), Value.slice none 0 0, frz (List.map encO mo)] 99), (7, HObj.row false (cellsE e) 33)], [(0, Value.pointer (some { block := 4, off := 0 })), (3, Value.pointer (some { block := 7, off := 0 })), (68, frz (List.map encC e.ws)), (69, Value.int IntKind.i64 ↑(List.length e.ws)), (70, Value.int IntKind.i64 (IntKind.wrap IntKind.i64 (k + 1)))], [false = false, false = false, (false == true) = false, (false == true) = false, (false == true) = false, (false == true) = false, false = false, (false == true) = false, (false == true) = false, (false == true) = false, Option.isSome (lookI d c.fst) = false, 0 ≤ k ∧ (List.map encC e.ws)[Int.toNat k]? = some (Value.agg { toList := [Value.int IntKind.i64 c.fst, Value.int IntKind.i64 c.snd.fst, Value.bool c.snd.snd.fst, Value.int IntKind.i64 c.snd.snd.snd] }), decide (k < ↑(List.length e.ws)) = true]) := by kernel_rfl

theorem ae_f1 (os : List O) (e : Eff) (d : List (Int × List Value)) (l : List Int) (mo : List O) (k m : Int) (c : C4) : hfin Tryd.prog Tryd.f20 (ayS os e d (.slice none 0 0) mo []) (mkF [] 106) [] ⟨[(0, 0, false), (1, 1, false), (2, 2, false), (3, 3, false), (4, 4, false)], [], [], 10, 7, false⟩ =
    some (Value.tuple { toList := [] }, [(0, HObj.row false [frz (List.map encO os)] 35), (1, HObj.row false (cellsE e) 33), (2, HObj.row false [Value.slice none 0 0] 35), (3, HObj.dmap d 2), (4, HObj.row false [Value.map (some 3), Value.slice none 0 0, frz (List.map encO mo)] 99)], []) := by kernel_rfl

theorem ae_x2 (os : List O) (e : Eff) (d : List (Int × List Value)) (l : List Int) (mo : List O) (k m : Int) (c : C4) : hrun Tryd.prog kIn 5 (flatC (loopIn (nth (pcs Tryd.prog 20) 2))) (ayS os e d (odW l) mo [odQ l]) (ayF e k) [false] [] ⟨[(0, 0, false), (1, 1, false), (2, 2, false), (3, 3, false), (4, 4, false), (7, 7, false), (9, 9, true)], [], [0, 3], 10, 7, false⟩ =
    some (HX.exit 0, [(0, HObj.row false [frz (List.map encO os)] 35), (1, HObj.row false (cellsE e) 33), (2, HObj.row false [Value.slice none 0 0] 35), (3, HObj.dmap d 2), (4, HObj.row false [Value.map (some 3), Value.slice (some { block := 9, off := 0 }) (List.length l) 9223372036854775809, frz (List.map encO mo)] 99), (7, HObj.row false (cellsE e) 33), (9, HObj.row true (List.map (fun i => Value.int IntKind.i64 i) l) 2)], [(0, Value.pointer (some { block := 4, off := 0 })), (3, Value.pointer (some { block := 7, off := 0 }))], [decide (k < ↑(List.length e.nw)) = false]) := by kernel_rfl

theorem ae_m2 (os : List O) (e : Eff) (d : List (Int × List Value)) (l : List Int) (mo : List O) (k m : Int) (c : C4) : hrun Tryd.prog kIn 5 (((pcs Tryd.prog 20).drop 3).take 1) (ayS os e d (odW l) mo [odQ l]) ayG [] [] ⟨[(0, 0, false), (1, 1, false), (2, 2, false), (3, 3, false), (4, 4, false), (7, 7, false), (9, 9, true)], [], [0, 3, 68, 69, 70], 10, 7, false⟩ =
    some (HX.normal, [(0, HObj.row false [frz (List.map encO os)] 35), (1, HObj.row false (cellsE e) 33), (2, HObj.row false [Value.slice none 0 0] 35), (3, HObj.dmap d 2), (4, HObj.row false [Value.map (some 3), Value.slice (some { block := 9, off := 0 }) (List.length l) 9223372036854775809, frz (List.map encO mo)] 99), (7, HObj.row false (cellsE e) 33), (9, HObj.row true (List.map (fun i => Value.int IntKind.i64 i) l) 2)], [(0, Value.pointer (some { block := 4, off := 0 })), (3, Value.pointer (some { block := 7, off := 0 })), (68, frz (List.map encC e.ws)), (69, Value.int IntKind.i64 ↑(List.length (List.map encC e.ws))), (70, Value.int IntKind.i64 0)], []) := by kernel_rfl

theorem ae_y2 (os : List O) (e : Eff) (d : List (Int × List Value)) (l : List Int) (mo : List O) (k m : Int) (c : C4) : hrun Tryd.prog kIn 5 (flatC (loopIn (nth (pcs Tryd.prog 20) 4))) (ayS os e d (odW l) mo [odQ l]) (azF e k) [false] [] ⟨[(0, 0, false), (1, 1, false), (2, 2, false), (3, 3, false), (4, 4, false), (7, 7, false), (9, 9, true)], [], [], 10, 7, false⟩ =
    some (HX.exit 2, [(0, HObj.row false [frz (List.map encO os)] 35), (1, HObj.row false (cellsE e) 33), (2, HObj.row false [Value.slice none 0 0] 35), (3, HObj.dmap d 2), (4, HObj.row false [Value.map (some 3), Value.slice (some { block := 9, off := 0 }) (List.length l) 9223372036854775809, frz (List.map encO mo)] 99), (7, HObj.row false (cellsE e) 33), (9, HObj.row true (List.map (fun i => Value.int IntKind.i64 i) l) 2)], [], [decide (k < ↑(List.length e.ws)) = false]) := by kernel_rfl

theorem ae_n2 (os : List O) (e : Eff) (d : List (Int × List Value)) (l : List Int) (mo : List O) (k m : Int) (c : C4) : hrun Tryd.prog kIn 5 (flatC (loopIn (nth (pcs Tryd.prog 20) 4))) (ayS os e d (odW l) mo [odQ l]) (azF e k) [true, false, false, false, false, false, false, false, false, false, false, false] [[encC c]] ⟨[(0, 0, false), (1, 1, false), (2, 2, false), (3, 3, false), (4, 4, false), (7, 7, false), (9, 9, true)], [], [0, 3, 68, 69, 70], 10, 7, false⟩ =
    some (HX.normal, [(0, HObj.row false [frz (List.map encO os)] 35), (1, HObj.row false (cellsE e) 33), (2, HObj.row false [Value.slice none 0 0] 35), (3, HObj.dmap d 2), (4, HObj.row false [Value.map (some 3), Value.slice (some { block := 9, off := 0 }) (List.length l) 9223372036854775809, frz (List.map encO mo)] 99), (7, HObj.row false (cellsE e) 33), (9, HObj.row true (List.map (fun i => Value.int IntKind.i64 i) l) 2)], [(0, Value.pointer (some { block := 4, off := 0 })), (3, Value.pointer (some { block := 7, off := 0 })), (68, frz (List.map encC e.ws)), (69, Value.int IntKind.i64 ↑(List.length e.ws)), (70, Value.int IntKind.i64 (IntKind.wrap IntKind.i64 (k + 1)))], [false = false, false = false, (false == true) = false, (false == true) = false, (false == true) = false, (false == true) = false, false = false, (false == true) = false, (false == true) = false, (false == true) = false, Option.isSome (lookI d c.fst) = false, 0 ≤ k ∧ (List.map encC e.ws)[Int.toNat k]? = some (Value.agg { toList := [Value.int IntKind.i64 c.fst, Value.int IntKind.i64 c.snd.fst, Value.bool c.snd.snd.fst, Value.int IntKind.i64 c.snd.snd.snd] }), decide (k < ↑(List.length e.ws)) = true]) := by kernel_rfl

theorem ae_l2 (os : List O) (e : Eff) (d : List (Int × List Value)) (l : List Int) (mo : List O) (k m : Int) (c : C4) : hrun Tryd.prog kIn 5 (flatC (loopIn (nth (pcs Tryd.prog 20) 4))) (ayS os e d (odW l) mo [odQ l]) (azF e k) [true, true, true, true, true, true, false, false, false, false, false, false] [[encC c], [.int .i64 m]] ⟨[(0, 0, false), (1, 1, false), (2, 2, false), (3, 3, false), (4, 4, false), (7, 7, false), (9, 9, true)], [], [0, 3, 68, 69, 70], 10, 7, false⟩ =
    some (HX.normal, [(0, HObj.row false [frz (List.map encO os)] 35), (1, HObj.row false (cellsE e) 33), (2, HObj.row false [Value.slice none 0 0] 35), (3, HObj.dmap d 2), (4, HObj.row false [Value.map (some 3), Value.slice (some { block := 9, off := 0 }) (List.length l) 9223372036854775809, frz (List.map encO mo)] 99), (7, HObj.row false (cellsE e) 33), (9, HObj.row true (List.map (fun i => Value.int IntKind.i64 i) l) 2)], [(0, Value.pointer (some { block := 4, off := 0 })), (3, Value.pointer (some { block := 7, off := 0 })), (68, frz (List.map encC e.ws)), (69, Value.int IntKind.i64 ↑(List.length e.ws)), (70, Value.int IntKind.i64 (IntKind.wrap IntKind.i64 (k + 1)))], [false = false, decide (c.snd.fst ≥ 0) = false, (decide (c.snd.fst ≥ 0) == true) = false, (decide (c.snd.fst ≥ 0) == true) = false, (decide (c.snd.fst ≥ 0) == true) = false, (decide (c.snd.fst ≥ 0) == true) = false, true = true, (true == true) = true, (true == true) = true, (true == true) = true, 0 ≤ m ∧ 0 < 2 ∧ ∃ cs, lookI d c.fst = some cs ∧ List.length cs = Int.toNat m * 2, Option.isSome (lookI d c.fst) = true, 0 ≤ k ∧ (List.map encC e.ws)[Int.toNat k]? = some (Value.agg { toList := [Value.int IntKind.i64 c.fst, Value.int IntKind.i64 c.snd.fst, Value.bool c.snd.snd.fst, Value.int IntKind.i64 c.snd.snd.snd] }), decide (k < ↑(List.length e.ws)) = true]) := by kernel_rfl

theorem ae_g2 (os : List O) (e : Eff) (d : List (Int × List Value)) (l : List Int) (mo : List O) (k m : Int) (c : C4) : hrun Tryd.prog kIn 5 (flatC (loopIn (nth (pcs Tryd.prog 20) 4))) (ayS os e d (odW l) mo [odQ l]) (azF e k) [true, true, true, true, true, true, true, true, true, true, true, false] [[encC c], [.int .i64 m]] ⟨[(0, 0, false), (1, 1, false), (2, 2, false), (3, 3, false), (4, 4, false), (7, 7, false), (9, 9, true)], [], [0, 3, 68, 69, 70], 10, 7, false⟩ =
    some (HX.normal, [(0, HObj.row false [frz (List.map encO os)] 35), (1, HObj.row false (cellsE e) 33), (2, HObj.row false [Value.slice none 0 0] 35), (3, HObj.dmap d 2), (4, HObj.row false [Value.map (some 3), Value.slice (some { block := 9, off := 0 }) (List.length l) 9223372036854775809, frz (List.map encO mo)] 99), (7, HObj.row false (cellsE e) 33), (9, HObj.row true (List.map (fun i => Value.int IntKind.i64 i) l) 2)], [(0, Value.pointer (some { block := 4, off := 0 })), (3, Value.pointer (some { block := 7, off := 0 })), (68, frz (List.map encC e.ws)), (69, Value.int IntKind.i64 ↑(List.length e.ws)), (70, Value.int IntKind.i64 (IntKind.wrap IntKind.i64 (k + 1)))], [decide (c.snd.fst < ↑(Int.toNat m)) = false, decide (c.snd.fst ≥ 0) = true, (decide (c.snd.fst ≥ 0) == true) = true, (decide (c.snd.fst ≥ 0) == true) = true, (decide (c.snd.fst ≥ 0) == true) = true, (decide (c.snd.fst ≥ 0) == true) = true, true = true, (true == true) = true, (true == true) = true, (true == true) = true, 0 ≤ m ∧ 0 < 2 ∧ ∃ cs, lookI d c.fst = some cs ∧ List.length cs = Int.toNat m * 2, Option.isSome (lookI d c.fst) = true, 0 ≤ k ∧ (List.map encC e.ws)[Int.toNat k]? = some (Value.agg { toList := [Value.int IntKind.i64 c.fst, Value.int IntKind.i64 c.snd.fst, Value.bool c.snd.snd.fst, Value.int IntKind.i64 c.snd.snd.snd] }), decide (k < ↑(List.length e.ws)) = true]) := by kernel_rfl

theorem ae_f2 (os : List O) (e : Eff) (d : List (Int × List Value)) (l : List Int) (mo : List O) (k m : Int) (c : C4) : hfin Tryd.prog Tryd.f20 (ayS os e d (odW l) mo [odQ l]) (mkF [] 106) [] ⟨[(0, 0, false), (1, 1, false), (2, 2, false), (3, 3, false), (4, 4, false), (9, 9, true)], [], [], 10, 7, false⟩ =
    some (Value.tuple { toList := [] }, [(0, HObj.row false [frz (List.map encO os)] 35), (1, HObj.row false (cellsE e) 33), (2, HObj.row false [Value.slice none 0 0] 35), (3, HObj.dmap d 2), (4, HObj.row false [Value.map (some 3), Value.slice (some { block := 9, off := 0 }) (List.length l) 9223372036854775809, frz (List.map encO mo)] 99), (9, HObj.row true (List.map (fun i => Value.int IntKind.i64 i) l) 2)], []) := by kernel_rfl

end Go.Proofs.MA

namespace Go.Proofs.MA
open Go Go.Hx Go.RowKit Go.Proofs
set_option maxRecDepth 100000

theorem ay_l2 : (pcs Tryd.prog 20).drop 2 = .block 0 (.loop (loopIn (nth (pcs Tryd.prog 20) 2))) :: (pcs Tryd.prog 20).drop 3 := by kernel_rfl
theorem memS_next (os : List O) (e : Eff) (m : Me) : (memS os e m).next = 7 := by unfold memS; split <;> rfl

theorem new1_od (m : Me) (o : O) : (new1 m o).od.length ≤ m.od.length + 1 := by
  unfold new1
  split
  · simp
  · simp only [insO_len]; exact Nat.le_refl _
theorem new1_emp (m : Me) (o : O) (hn : m.od = [] → m.d = []) : (new1 m o).od = [] → (new1 m o).d = [] := by
  intro h
  exfalso
  unfold new1 at h
  split at h
  · rename_i hs
    have := hn h
    rw [this] at hs
    cases hs
  · have := congrArg List.length h
    rw [insO_len] at this
    simp at this

/-- The entry, whatever the memory is. -/
theorem ay_entry (os : List O) (e : Eff) (m : Me) (hn : m.od = [] → m.d = [] ∧ m.mo = []) {Q : HX → St → HF → Prop} (h : Ex Tryd.prog 7 ((pcs Tryd.prog 20).drop 2) (ayM os e m) (ayF e 0) Q) :
    Ex Tryd.prog 7 (pcs Tryd.prog 20) (memS os e m) (entF [.pointer (some ⟨4, 0, none⟩), encE e] 106) Q := by
  obtain ⟨d, od, mo⟩ := m
  have hnl : (List.map encO e.nw).length = e.nw.length := List.length_map ..
  have cell : ∀ (x : Value) (j : Nat) (v' : Value), ([.map (some 3), x, frz []] : List Value)[j]? = some v' → ∃ v, ([.map (some 3), x, .slice none 0 0] : List Value)[j]? = some v ∧ (v' = v ∨ (v = .slice none 0 0 ∧ v' = frz [])) := by
    intro x j v' hj
    match j, hj with
    | 0, hj => exact ⟨_, rfl, .inl (Option.some.inj hj).symm⟩
    | 1, hj => exact ⟨_, rfl, .inl (Option.some.inj hj).symm⟩
    | 2, hj => exact ⟨_, rfl, .inr ⟨rfl, (Option.some.inj hj).symm⟩⟩
    | n + 3, hj => simp at hj
  cases od with
  | nil =>
    obtain ⟨hd, hmo⟩ := hn rfl
    simp only at hd hmo
    subst hd hmo
    refine Ex.turn (s2 := ldS os e (encD []) (.slice none 0 0) (frz []) [] 7) (turn_row (i := 4) (c := [.map (some 3), .slice none 0 0, .slice none 0 0]) (c' := [.map (some 3), .slice none 0 0, frz []]) (e := 99) (by kernel_rfl) (by kernel_rfl) rfl (cell _) rfl rfl) ?_
    refine Ex.stepN noGT kIn_ok 2 106 0 10 (ae_A os e (encD []) [] [] 0 0 (0, 0, false, 0)) rfl .nil ?_
    rw [hnl]
    exact h
  | cons x l =>
    cases mo with
    | nil =>
      refine Ex.turn (s2 := ldS os e (encD d) (odV (x :: l)) (frz []) [odR (x :: l)] 7) (turn_row (i := 4) (c := [.map (some 3), odV (x :: l), .slice none 0 0]) (c' := [.map (some 3), odV (x :: l), frz []]) (e := 99) (by kernel_rfl) (by kernel_rfl) rfl (cell _) rfl rfl) ?_
      refine Ex.stepN noGT kIn_ok 2 106 0 10 (ae_B os e (encD d) (x :: l) [] 0 0 (0, 0, false, 0)) rfl .nil ?_
      rw [hnl]
      exact h
    | cons y mo =>
      refine Ex.stepN noGT kIn_ok 2 106 0 10 (ae_C os e (encD d) (x :: l) (y :: mo) 0 0 (0, 0, false, 0)) rfl (.cons ⟨rfl, flatV_encO _, by omega⟩ (.cons (by simp) .nil)) ?_
      rw [hnl]
      exact h

/-- Leaving the first loop. -/
theorem ay_leave (os : List O) (e : Eff) (m : Me) (k : Nat) (hk : k = e.nw.length) {Q : HX → St → HF → Prop} (hQ : Q (.exit 0) (ayM os e m) ayG) :
    Ex Tryd.prog 7 (flatC (loopIn (nth (pcs Tryd.prog 20) 2))) (ayM os e m) (ayF e k) Q := by
  obtain ⟨d, od, mo⟩ := m
  have hdec : decide (((k : Nat) : Int) < ((e.nw.length : Nat) : Int)) = false := by simp; omega
  cases od with
  | nil => exact Ex.stepN noGT kIn_ok 99 106 0 10 (ae_x1 os e (encD d) [] mo k 0 (0, 0, false, 0)) rfl (.cons hdec .nil) hQ
  | cons x l => exact Ex.stepN noGT kIn_ok 99 106 0 10 (ae_x2 os e (encD d) (x :: l) mo k 0 (0, 0, false, 0)) rfl (.cons hdec .nil) hQ
/-- Between the loops. -/
theorem ay_mid (os : List O) (e : Eff) (m : Me) {Q : HX → St → HF → Prop} (h : Ex Tryd.prog 7 ((pcs Tryd.prog 20).drop 4) (ayM os e m) (azF e 0) Q) : Ex Tryd.prog 7 ((pcs Tryd.prog 20).drop 3) (ayM os e m) ayG Q := by
  obtain ⟨d, od, mo⟩ := m
  have hwl : (List.map encC e.ws).length = e.ws.length := List.length_map ..
  cases od with
  | nil =>
    refine Ex.stepN noGT kIn_ok 1 106 0 10 (ae_m1 os e (encD d) [] mo 0 0 (0, 0, false, 0)) rfl .nil ?_
    rw [hwl]
    exact h
  | cons x l =>
    refine Ex.stepN noGT kIn_ok 1 106 0 10 (ae_m2 os e (encD d) (x :: l) mo 0 0 (0, 0, false, 0)) rfl .nil ?_
    rw [hwl]
    exact h

theorem ay_first (os : List O) (e : Eff) (m : Me) (hn : m.od = [] → m.d = [] ∧ m.mo = []) (hnw : ∀ o ∈ e.nw, SmV o.2) (hsz : m.od.length + e.nw.length ≤ 100000) {Q : HX → St → HF → Prop}
    (h : Ex Tryd.prog 7 ((pcs Tryd.prog 20).drop 4) (ayM os e (e.nw.foldl new1 m)) (azF e 0) Q) : Ex Tryd.prog 7 (pcs Tryd.prog 20) (memS os e m) (entF [.pointer (some ⟨4, 0, none⟩), encE e] 106) Q := by
  refine ay_entry os e m hn ?_
  rw [ay_l2]
  refine Ex.loop (fun n s f => ∃ p q, e.nw = p ++ q ∧ q.length = n ∧ s = ayM os e (p.foldl new1 m) ∧ f = ayF e p.length ∧ ((p.foldl new1 m).od = [] → (p.foldl new1 m).d = []) ∧ (p.foldl new1 m).od.length ≤ m.od.length + p.length) ?_ ⟨[], e.nw, rfl, rfl, rfl, rfl, fun h => (hn h).1, Nat.le_refl _⟩
  rintro n s f ⟨p, q, hos, hm, rfl, rfl, he, hl⟩
  have hpl : p.length ≤ e.nw.length := by rw [hos]; simp
  cases q with
  | nil =>
    have hp : e.nw = p := by simpa using hos
    refine ay_leave os e _ p.length (by rw [hp]) ?_
    refine rndQ.out ?_
    refine ay_mid os e _ ?_
    rw [← hp]
    exact h
  | cons o q =>
    have hk : e.nw[p.length]? = some o := by rw [hos]; exact at_split p o q
    have hlt : p.length < e.nw.length := by rw [hos]; simp
    refine ay_step os e _ o p.length hk (hnw o (by rw [hos]; simp)) (by omega) he (by omega) ?_
    have hw : IntKind.wrap IntKind.i64 ((p.length : Int) + 1) = ((p ++ [o]).length : Int) := by
      rw [IntWalk.i64_in _ (by omega)]; simp
    rw [hw]
    refine ⟨n - 1, by simp at hm; omega, p ++ [o], q, by simp [hos], by simp at hm; omega, ?_, rfl, ?_, ?_⟩
    · rw [List.foldl_append]; rfl
    · rw [List.foldl_append]; exact new1_emp _ _ he
    · rw [List.foldl_append]
      have := new1_od (p.foldl new1 m) o
      simp only [List.foldl_cons, List.foldl_nil, List.length_append, List.length_cons, List.length_nil]
      omega

end Go.Proofs.MA
