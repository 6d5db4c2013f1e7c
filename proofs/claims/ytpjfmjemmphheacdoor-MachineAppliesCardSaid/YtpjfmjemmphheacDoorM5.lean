/- MachineApplies: the machine: heap. Conditions: none. -/
import Derived.Test.YtpjfmjemmphheacDoorM4
set_option linter.all false
set_option linter.unusedVariables false
set_option linter.unusedSimpArgs false
namespace Go.Proofs.MA
open Go Go.Hx Go.RowKit Go.Proofs
set_option maxRecDepth 100000

/-! ### Clone of what is frozen -/
theorem cl_a (fs : List V) : hrun Tryd.prog noK 5 (pcs Tryd.prog 35) St0 (entF [encFs fs] 8) [false, false, false] [] ⟨[(1, 0, true)], [], [2], 1, 0, false⟩ =
    some (HX.ret, [(0, HObj.row true ([] ++ flatV (List.map encV fs)) 24)], [(2, Value.slice (some { block := 0, off := 0 }) (0 + List.length (List.map encV fs)) 9223372036854775810)], [Nat.ble (0 + List.length (List.map encV fs)) 0 = false, (Nat.ble ((0 + List.length (List.map encV fs)) * 16) 140737488355328 && Nat.ble (0 + List.length (List.map encV fs)) 4611686018427387904) = true, ∀ (v : Value), v ∈ List.map encV fs → Array.size (Value.cells v) = 2, Nat.beq (List.length (List.map encV fs)) 0 = false, false = false, (!Nat.beq (List.length (List.map encV fs)) 0) = true]) := by kernel_rfl

theorem cl_f (fs : List V) : hfin Tryd.prog Tryd.f35 (mkSt [(0, .row true ([] ++ flatV (fs.map encV)) 24)] 1 0) (mkF [(2, .slice (some ⟨0, 0, none⟩) (0 + (fs.map encV).length) (UNK + 2))] 8) [] ⟨[], [(0, 2, fs.map encV)], [], 0, 0, false⟩ =
    some (frz (List.map encV fs), [], [flatV (List.map encV fs) = [] ++ flatV (List.map encV fs) ∧ (∀ (v : Value), v ∈ List.map encV fs → Array.size (Value.cells v) = 2) ∧ 0 < 2, 0 + List.length (List.map encV fs) = List.length (List.map encV fs)]) := by kernel_rfl

theorem cl_ok (fs : List V) (h : SmV fs) : FnEx Tryd.prog 35 [encFs fs] St0 (fun u _ => u = encFs fs) := by
  unfold SmV at h
  by_cases hf : fs = []
  · subst hf
    exact (cl0_ok St0).mono fun v s h => h.1
  · have hfl : (List.map encV fs).length = fs.length := List.length_map ..
    have h0 : fs.length ≠ 0 := fun h => hf (List.eq_nil_of_length_eq_zero h)
    have c2 : Nat.ble (0 + (List.map encV fs).length) 0 = false := by
      cases hb : Nat.ble (0 + (List.map encV fs).length) 0 with
      | false => rfl
      | true => exact absurd (by have := ble_le hb; omega) h0
    have c4 : Nat.beq (List.map encV fs).length 0 = false := beqF (by rw [hfl]; exact h0)
    refine FnEx.enter (n0 := 0) (fn := Tryd.f35) (c := bodyOf Tryd.prog 35) Tryd.func35 (by kernel_rfl) rfl rfl ?_
    refine Ex.stepN noGT noK_ok 99 8 0 1 (cl_a fs) rfl (.cons c2 (.cons (apOK (by omega) (by omega)) (.cons (flatV_encV _) (.cons c4 (.cons rfl (.cons (by rw [c4]; rfl) .nil)))))) ?_
    exact FinQ.mk' (.inr rfl) (cl_f fs) rfl (.cons ⟨rfl, flatV_encV _, by omega⟩ (.cons (by omega) .nil)) rfl
def relCl : Rel := fun args v => ∃ fs, SmV fs ∧ args = [encFs fs] ∧ v = encFs fs
theorem relCl_ok : ∀ args v, relCl args v → FnEx Tryd.prog 35 args St0 (fun u _ => u = v) := by
  rintro args v ⟨fs, h, rfl, rfl⟩
  exact cl_ok fs h
def kHe : HCall := specK [(35, relCl)]
theorem kHe_ok : CallOK Tryd.prog kHe := specK_ok fun g rel hm args v h _ _ => by
  simp only [List.mem_cons, Prod.mk.injEq, List.mem_nil_iff, or_false] at hm
  obtain ⟨rfl, rfl⟩ := hm
  exact relCl_ok args v h

/-! ### The memory, more being frozen -/
def odW (l : List Int) : Value := .slice (some ⟨9, 0, none⟩) l.length (UNK + 1)
def odQ (l : List Int) : Nat × HObj := (9, .row true (ids l) 2)
def memT (os : List O) (e : Eff) (m : HObj) (od mo : Value) (l : List (Nat × HObj)) (n : Nat) : St :=
  mkSt (parks os e ++ [(3, m), (4, .row false [.map (some 3), od, mo] 99)] ++ l) n 0

/-! ### heap -/
theorem he_a1 (os : List O) (e : Eff) (d : List (Int × Value)) (l : List Int) (mo : List O) : hrun Tryd.prog kHe 5 ((pcs Tryd.prog 21).take 5) (memT os e (.omap d) (.slice none 0 0) (encOs mo) [] 10) (entF [.pointer (some ⟨4, 0, none⟩)] 58) [] [] ⟨[(0, 0, false), (1, 1, false), (2, 2, false), (3, 3, false), (4, 4, false), (10, 10, false), (11, 11, false), (12, 12, false)], [], [0, 2, 3, 4, 5, 16, 17, 18], 14, 10, false⟩ =
    some (HX.normal, [(0, HObj.row false [frz (List.map encO os)] 35), (1, HObj.row false (cellsE e) 33), (2, HObj.row false [Value.slice none 0 0] 35), (3, HObj.omap d), (4, HObj.row false [Value.map (some 3), Value.slice none 0 0, frz (List.map encO mo)] 99), (10, HObj.row false [Value.slice none 0 0] 35), (11, HObj.row false [Value.slice none 0 0] 35), (12, HObj.map [] 0)], [(0, Value.pointer (some { block := 4, off := 0 })), (2, Value.pointer (some { block := 10, off := 0 })), (3, Value.pointer (some { block := 11, off := 0 })), (4, Value.map (some 12)), (5, frz (List.map encO mo)), (16, Value.slice none 0 0), (17, Value.int IntKind.i64 ↑0), (18, Value.int IntKind.i64 0)], []) := by kernel_rfl

theorem he_a2 (os : List O) (e : Eff) (d : List (Int × Value)) (l : List Int) (mo : List O) : hrun Tryd.prog kHe 5 ((pcs Tryd.prog 21).take 5) (memT os e (.omap d) (odW l) (encOs mo) [odQ l] 10) (entF [.pointer (some ⟨4, 0, none⟩)] 58) [] [] ⟨[(0, 0, false), (1, 1, false), (2, 2, false), (3, 3, false), (4, 4, false), (10, 10, false), (11, 11, false), (12, 12, false)], [(9, 1, ids l)], [0, 2, 3, 4, 5, 16, 17, 18], 14, 10, false⟩ =
    some (HX.normal, [(0, HObj.row false [frz (List.map encO os)] 35), (1, HObj.row false (cellsE e) 33), (2, HObj.row false [Value.slice none 0 0] 35), (3, HObj.omap d), (4, HObj.row false [Value.map (some 3), frz (List.map (fun i => Value.int IntKind.i64 i) l), frz (List.map encO mo)] 99), (10, HObj.row false [Value.slice none 0 0] 35), (11, HObj.row false [Value.slice none 0 0] 35), (12, HObj.map [] 0)], [(0, Value.pointer (some { block := 4, off := 0 })), (2, Value.pointer (some { block := 10, off := 0 })), (3, Value.pointer (some { block := 11, off := 0 })), (4, Value.map (some 12)), (5, frz (List.map encO mo)), (16, frz (List.map (fun i => Value.int IntKind.i64 i) l)), (17, Value.int IntKind.i64 ↑(List.length l)), (18, Value.int IntKind.i64 0)], [flatV (List.map (fun i => Value.int IntKind.i64 i) l) = List.map (fun i => Value.int IntKind.i64 i) l ∧ (∀ (v : Value), v ∈ List.map (fun i => Value.int IntKind.i64 i) l → Array.size (Value.cells v) = 1) ∧ 0 < 1, List.length l = List.length (List.map (fun i => Value.int IntKind.i64 i) l), List.length l = List.length (List.map (fun i => Value.int IntKind.i64 i) l)]) := by kernel_rfl

def heS (os : List O) (e : Eff) (d : List (Int × Value)) (od mc ov : Value) (sn : List (Int × Value)) (ol : List (Nat × HObj)) : St :=
  mkSt (parks os e ++ [(3, .omap d), (4, .row false [.map (some 3), od, mc] 99), (10, .row false [.slice none 0 0] 35), (11, .row false [ov] 35), (12, .omap sn)] ++ ol) 14 0
def heF (mv od : Value) (n : Nat) (k : Int) : HF := mkF [(0, .pointer (some ⟨4, 0, none⟩)), (2, .pointer (some ⟨10, 0, none⟩)), (3, .pointer (some ⟨11, 0, none⟩)), (4, .map (some 12)), (5, mv), (16, od), (17, .int .i64 n), (18, .int .i64 k)] 58
def ouV (n : Nat) : Value := .slice (some ⟨13, 0, none⟩) n (UNK + 2)
def ouR (cs : List Value) : Nat × HObj := (13, .row true cs 64)
def heZ (os : List O) (e : Eff) (ov : Value) (ol : List (Nat × HObj)) : St := mkSt (parks os e ++ [(10, .row false [.slice none 0 0] 35), (11, .row false [ov] 35)] ++ ol) 14 0
def heG : HF := mkF [(2, .pointer (some ⟨10, 0, none⟩)), (3, .pointer (some ⟨11, 0, none⟩))] 58
def heY (os : List O) (e : Eff) (ov : Value) (ol : List (Nat × HObj)) : St := mkSt (parks os e ++ [(10, .row false [ov] 35)] ++ ol) 14 0
def heH : HF := mkF [(2, .pointer (some ⟨10, 0, none⟩))] 58
def parksZ (os : List O) (e : Eff) : List (Nat × HObj) := [(0, .row false [encOs os] 35), (1, .row false (cellsE e) 33), (2, .row false [frz []] 35)]

theorem he_1 (os : List O) (e : Eff) (d sn : List (Int × Value)) (l : List Int) (m0 mo : List O) (cs : List Value) (n : Nat) (k i : Int) (fs : List V) (x : O) (ou : List O) : hrun Tryd.prog kHe 5 (flatC (loopIn (nth (pcs Tryd.prog 21) 5))) (heS os e d (frz (ids l)) (encOs m0) (.slice none 0 0) sn []) (heF (encOs mo) (frz (ids l)) l.length k) [true, false, true, true, false] [[.int .i64 i], [encFs fs], [encFs fs]] ⟨[(0, 0, false), (1, 1, false), (2, 2, false), (3, 3, false), (4, 4, false), (10, 10, false), (11, 11, false), (12, 12, false), (15, 13, true)], [], [0, 2, 3, 4, 5, 16, 17, 18], 14, 10, false⟩ =
    some (HX.normal, [(0, HObj.row false [frz (List.map encO os)] 35), (1, HObj.row false (cellsE e) 33), (2, HObj.row false [Value.slice none 0 0] 35), (3, HObj.omap d), (4, HObj.row false [Value.map (some 3), frz (List.map (fun i => Value.int IntKind.i64 i) l), frz (List.map encO m0)] 99), (10, HObj.row false [Value.slice none 0 0] 35), (11, HObj.row false [Value.slice (some { block := 13, off := 0 }) 1 9223372036854775810] 35), (12, HObj.omap (updI sn i (Value.bool true))), (13, HObj.row true [Value.int IntKind.i64 i, frz (List.map encV fs)] 64)], [(0, Value.pointer (some { block := 4, off := 0 })), (2, Value.pointer (some { block := 10, off := 0 })), (3, Value.pointer (some { block := 11, off := 0 })), (4, Value.map (some 12)), (5, frz (List.map encO mo)), (16, frz (List.map (fun i => Value.int IntKind.i64 i) l)), (17, Value.int IntKind.i64 ↑(List.length l)), (18, Value.int IntKind.i64 (IntKind.wrap IntKind.i64 (k + 1)))], [(Nat.ble 32 140737488355328 && Nat.ble 1 4611686018427387904) = true, Nat.beq 1 0 = false, relCl [frz (List.map encV fs)] (frz (List.map encV fs)), lookI d i = some (frz (List.map encV fs)), Option.isSome (lookI d i) = true, (!false) = true, Option.isSome (lookI sn i) = false, 0 ≤ k ∧ (List.map (fun i => Value.int IntKind.i64 i) l)[Int.toNat k]? = some (Value.int IntKind.i64 i), decide (k < ↑(List.length l)) = true]) := by kernel_rfl

theorem he_2 (os : List O) (e : Eff) (d sn : List (Int × Value)) (l : List Int) (m0 mo : List O) (cs : List Value) (n : Nat) (k i : Int) (fs : List V) (x : O) (ou : List O) : hrun Tryd.prog kHe 5 (flatC (loopIn (nth (pcs Tryd.prog 21) 5))) (heS os e d (frz (ids l)) (encOs m0) (ouV n) sn [ouR cs]) (heF (encOs mo) (frz (ids l)) l.length k) [true, false, true, true, false] [[.int .i64 i], [encFs fs], [encFs fs]] ⟨[(0, 0, false), (1, 1, false), (2, 2, false), (3, 3, false), (4, 4, false), (10, 10, false), (11, 11, false), (12, 12, false), (15, 13, true)], [], [0, 2, 3, 4, 5, 16, 17, 18], 14, 10, false⟩ =
    some (HX.normal, [(0, HObj.row false [frz (List.map encO os)] 35), (1, HObj.row false (cellsE e) 33), (2, HObj.row false [Value.slice none 0 0] 35), (3, HObj.omap d), (4, HObj.row false [Value.map (some 3), frz (List.map (fun i => Value.int IntKind.i64 i) l), frz (List.map encO m0)] 99), (10, HObj.row false [Value.slice none 0 0] 35), (11, HObj.row false [Value.slice (some { block := 13, off := 0 }) (n + 1) 9223372036854775810] 35), (12, HObj.omap (updI sn i (Value.bool true))), (13, HObj.row true (cs ++ [Value.int IntKind.i64 i, frz (List.map encV fs)]) 64)], [(0, Value.pointer (some { block := 4, off := 0 })), (2, Value.pointer (some { block := 10, off := 0 })), (3, Value.pointer (some { block := 11, off := 0 })), (4, Value.map (some 12)), (5, frz (List.map encO mo)), (16, frz (List.map (fun i => Value.int IntKind.i64 i) l)), (17, Value.int IntKind.i64 ↑(List.length l)), (18, Value.int IntKind.i64 (IntKind.wrap IntKind.i64 (k + 1)))], [n * 2 = List.length cs, (Nat.ble ((n + 1) * 32) 140737488355328 && Nat.ble (n + 1) 4611686018427387904) = true, Nat.beq 1 0 = false, relCl [frz (List.map encV fs)] (frz (List.map encV fs)), lookI d i = some (frz (List.map encV fs)), Option.isSome (lookI d i) = true, (!false) = true, Option.isSome (lookI sn i) = false, 0 ≤ k ∧ (List.map (fun i => Value.int IntKind.i64 i) l)[Int.toNat k]? = some (Value.int IntKind.i64 i), decide (k < ↑(List.length l)) = true]) := by kernel_rfl

theorem he_d (os : List O) (e : Eff) (d sn : List (Int × Value)) (l : List Int) (m0 mo : List O) (cs : List Value) (n : Nat) (k i : Int) (fs : List V) (x : O) (ou : List O) : hrun Tryd.prog kHe 5 (flatC (loopIn (nth (pcs Tryd.prog 21) 5))) (heS os e d (frz (ids l)) (encOs m0) (ouV n) sn [ouR cs]) (heF (encOs mo) (frz (ids l)) l.length k) [true, true, false, false] [[.int .i64 i], [.bool true], [encO x], [encFs x.2]] ⟨[(0, 0, false), (1, 1, false), (2, 2, false), (3, 3, false), (4, 4, false), (10, 10, false), (11, 11, false), (12, 12, false), (15, 13, true)], [], [0, 2, 3, 4, 5, 16, 17, 18], 14, 10, false⟩ =
    some (HX.normal, [(0, HObj.row false [frz (List.map encO os)] 35), (1, HObj.row false (cellsE e) 33), (2, HObj.row false [Value.slice none 0 0] 35), (3, HObj.omap d), (4, HObj.row false [Value.map (some 3), frz (List.map (fun i => Value.int IntKind.i64 i) l), frz (List.map encO m0)] 99), (10, HObj.row false [Value.slice none 0 0] 35), (11, HObj.row false [Value.slice (some { block := 13, off := 0 }) (n + 1) 9223372036854775810] 35), (12, HObj.omap sn), (13, HObj.row true (cs ++ [Value.int IntKind.i64 i, frz (List.map encV x.snd)]) 64)], [(0, Value.pointer (some { block := 4, off := 0 })), (2, Value.pointer (some { block := 10, off := 0 })), (3, Value.pointer (some { block := 11, off := 0 })), (4, Value.map (some 12)), (5, frz (List.take (List.length (List.map encO mo) - 1) (List.drop 1 (List.map encO mo)))), (16, frz (List.map (fun i => Value.int IntKind.i64 i) l)), (17, Value.int IntKind.i64 ↑(List.length l)), (18, Value.int IntKind.i64 (IntKind.wrap IntKind.i64 (k + 1)))], [(posO (some 1) && Nat.ble 1 (List.length (List.map encO mo))) = true ∧ (List.map encO mo = [] ∨ ∀ (v : Value), v ∈ List.map encO mo → Array.size (Value.cells v) = 2), n * 2 = List.length cs, (Nat.ble ((n + 1) * 32) 140737488355328 && Nat.ble (n + 1) 4611686018427387904) = true, Nat.beq 1 0 = false, relCl [frz (List.map encV x.snd)] (frz (List.map encV x.snd)), (0 : Int) ≤ 0 ∧ (List.map encO mo)[0]? = some (Value.agg { toList := [Value.int IntKind.i64 x.fst, frz (List.map encV x.snd)] }), (!true) = false, lookI sn i = some (Value.bool true), Option.isSome (lookI sn i) = true, 0 ≤ k ∧ (List.map (fun i => Value.int IntKind.i64 i) l)[Int.toNat k]? = some (Value.int IntKind.i64 i), decide (k < ↑(List.length l)) = true]) := by kernel_rfl

theorem he_xN (os : List O) (e : Eff) (d sn : List (Int × Value)) (l : List Int) (m0 mo : List O) (cs : List Value) (n : Nat) (k i : Int) (fs : List V) (x : O) (ou : List O) : hrun Tryd.prog kHe 5 (flatC (loopIn (nth (pcs Tryd.prog 21) 5))) (heS os e d (.slice none 0 0) (encOs m0) (.slice none 0 0) sn []) (heF (encOs mo) (.slice none 0 0) 0 k) [false] [] ⟨[(0, 0, false), (1, 1, false), (2, 2, false), (10, 10, false), (11, 11, false)], [], [2, 3], 14, 10, false⟩ =
    some (HX.exit 0, [(0, HObj.row false [frz (List.map encO os)] 35), (1, HObj.row false (cellsE e) 33), (2, HObj.row false [Value.slice none 0 0] 35), (10, HObj.row false [Value.slice none 0 0] 35), (11, HObj.row false [Value.slice none 0 0] 35)], [(2, Value.pointer (some { block := 10, off := 0 })), (3, Value.pointer (some { block := 11, off := 0 }))], [decide (k < ↑0) = false]) := by kernel_rfl

theorem he_x1 (os : List O) (e : Eff) (d sn : List (Int × Value)) (l : List Int) (m0 mo : List O) (cs : List Value) (n : Nat) (k i : Int) (fs : List V) (x : O) (ou : List O) : hrun Tryd.prog kHe 5 (flatC (loopIn (nth (pcs Tryd.prog 21) 5))) (heS os e d (frz (ids l)) (encOs m0) (.slice none 0 0) sn []) (heF (encOs mo) (frz (ids l)) l.length k) [false] [] ⟨[(0, 0, false), (1, 1, false), (2, 2, false), (10, 10, false), (11, 11, false)], [], [2, 3], 14, 10, false⟩ =
    some (HX.exit 0, [(0, HObj.row false [frz (List.map encO os)] 35), (1, HObj.row false (cellsE e) 33), (2, HObj.row false [Value.slice none 0 0] 35), (10, HObj.row false [Value.slice none 0 0] 35), (11, HObj.row false [Value.slice none 0 0] 35)], [(2, Value.pointer (some { block := 10, off := 0 })), (3, Value.pointer (some { block := 11, off := 0 }))], [decide (k < ↑(List.length l)) = false]) := by kernel_rfl

theorem he_x2 (os : List O) (e : Eff) (d sn : List (Int × Value)) (l : List Int) (m0 mo : List O) (cs : List Value) (n : Nat) (k i : Int) (fs : List V) (x : O) (ou : List O) : hrun Tryd.prog kHe 5 (flatC (loopIn (nth (pcs Tryd.prog 21) 5))) (heS os e d (frz (ids l)) (encOs m0) (ouV n) sn [ouR cs]) (heF (encOs mo) (frz (ids l)) l.length k) [false] [] ⟨[(0, 0, false), (1, 1, false), (2, 2, false), (10, 10, false), (11, 11, false), (13, 13, true)], [], [2, 3], 14, 10, false⟩ =
    some (HX.exit 0, [(0, HObj.row false [frz (List.map encO os)] 35), (1, HObj.row false (cellsE e) 33), (2, HObj.row false [Value.slice none 0 0] 35), (10, HObj.row false [Value.slice none 0 0] 35), (11, HObj.row false [Value.slice (some { block := 13, off := 0 }) n 9223372036854775810] 35), (13, HObj.row true cs 64)], [(2, Value.pointer (some { block := 10, off := 0 })), (3, Value.pointer (some { block := 11, off := 0 }))], [decide (k < ↑(List.length l)) = false]) := by kernel_rfl

theorem he_e1 (os : List O) (e : Eff) (d sn : List (Int × Value)) (l : List Int) (m0 mo : List O) (cs : List Value) (n : Nat) (k i : Int) (fs : List V) (x : O) (ou : List O) : hrun Tryd.prog kHe 5 ((pcs Tryd.prog 21).drop 6) (heZ os e (.slice none 0 0) []) heG [] [] ⟨[(0, 0, false), (1, 1, false), (2, 2, false), (10, 10, false)], [], [2], 14, 10, false⟩ =
    some (HX.ret, [(0, HObj.row false [frz (List.map encO os)] 35), (1, HObj.row false (cellsE e) 33), (2, HObj.row false [Value.slice none 0 0] 35), (10, HObj.row false [Value.slice none 0 0] 35)], [(2, Value.pointer (some { block := 10, off := 0 }))], []) := by kernel_rfl

theorem he_f1 (os : List O) (e : Eff) (d sn : List (Int × Value)) (l : List Int) (m0 mo : List O) (cs : List Value) (n : Nat) (k i : Int) (fs : List V) (x : O) (ou : List O) : hfin Tryd.prog Tryd.f21 (heY os e (.slice none 0 0) []) heH [] ⟨[(0, 0, false), (1, 1, false), (2, 2, false)], [], [], 14, 10, true⟩ =
    some (Value.agg { toList := [frz ([])] }, [(0, HObj.row false [frz (List.map encO os)] 35), (1, HObj.row false (cellsE e) 33), (2, HObj.row false [frz ([])] 35)], []) := by kernel_rfl

theorem he_e2 (os : List O) (e : Eff) (d sn : List (Int × Value)) (l : List Int) (m0 mo : List O) (cs : List Value) (n : Nat) (k i : Int) (fs : List V) (x : O) (ou : List O) : hrun Tryd.prog kHe 5 ((pcs Tryd.prog 21).drop 6) (heZ os e (ouV n) [ouR cs]) heG [] [] ⟨[(0, 0, false), (1, 1, false), (2, 2, false), (10, 10, false), (13, 13, true)], [], [2], 14, 10, false⟩ =
    some (HX.ret, [(0, HObj.row false [frz (List.map encO os)] 35), (1, HObj.row false (cellsE e) 33), (2, HObj.row false [Value.slice none 0 0] 35), (10, HObj.row false [Value.slice (some { block := 13, off := 0 }) n 9223372036854775810] 35), (13, HObj.row true cs 64)], [(2, Value.pointer (some { block := 10, off := 0 }))], []) := by kernel_rfl

theorem he_f2 (os : List O) (e : Eff) (d sn : List (Int × Value)) (l : List Int) (m0 mo : List O) (cs : List Value) (n : Nat) (k i : Int) (fs : List V) (x : O) (ou : List O) : hfin Tryd.prog Tryd.f21 (heY os e (ouV n) [ouR cs]) heH [] ⟨[(0, 0, false), (1, 1, false), (2, 2, false)], [(13, 2, ou.map encO)], [], 14, 10, true⟩ =
    some (Value.agg { toList := [frz (List.map encO ou)] }, [(0, HObj.row false [frz (List.map encO os)] 35), (1, HObj.row false (cellsE e) 33), (2, HObj.row false [frz ([])] 35)], [flatV (List.map encO ou) = cs ∧ (∀ (v : Value), v ∈ List.map encO ou → Array.size (Value.cells v) = 2) ∧ 0 < 2, n = List.length (List.map encO ou)]) := by kernel_rfl

end Go.Proofs.MA

namespace Go.Proofs.MA
open Go Go.Hx Go.RowKit Go.Proofs
set_option maxRecDepth 100000

/-! ### Plain -/
theorem ixI_app {α : Type} : ∀ (es : List (Int × α)) (n : Int) (i : Nat) (x : Int × α), ixI (es ++ [x]) n i = match ixI es n i with | some j => some j | none => if x.1 = n then some (i + es.length) else none
  | [], n, i, x => by simp [ixI]
  | e :: es, n, i, x => by
    simp only [List.cons_append, ixI]
    split
    · rfl
    · rw [ixI_app es n (i + 1) x]
      cases ixI es n (i + 1) with
      | some j => rfl
      | none => simp only [List.length_cons]; rw [show i + 1 + es.length = i + (es.length + 1) by omega]
theorem ixI_lt {α : Type} : ∀ (es : List (Int × α)) (n : Int) (i j : Nat), ixI es n i = some j → i ≤ j ∧ j < i + es.length
  | [], n, i, j, h => by cases h
  | e :: es, n, i, j, h => by
    simp only [ixI] at h
    split at h
    · cases h; simp
    · have := ixI_lt es n (i + 1) j h
      simp only [List.length_cons]; omega
theorem ixI_set {α : Type} : ∀ (es : List (Int × α)) (n k : Int) (x : α) (i j : Nat), ixI es n i = some (i + j) → ixI (es.set j (n, x)) k i = ixI es k i
  | [], n, k, x, i, j, h => by cases h
  | e :: es, n, k, x, i, 0, h => by
    simp only [ixI] at h
    split at h
    · rename_i he
      simp only [List.set_cons_zero, ixI, he]
    · have := (ixI_lt es n (i + 1) _ h).1
      omega
  | e :: es, n, k, x, i, j + 1, h => by
    simp only [ixI] at h
    split at h
    · cases h
    · simp only [List.set_cons_succ, ixI]
      rw [ixI_set es n k x (i + 1) j (by rw [h]; congr 1; omega)]
theorem lookI_upd {α : Type} (es : List (Int × α)) (n k : Int) (x : α) : lookI (updI es n x) k = if k = n then some x else lookI es k := by
  unfold updI
  cases hn : ixI es n 0 with
  | none =>
    simp only
    unfold lookI
    rw [ixI_app]
    by_cases hk : k = n
    · subst hk
      rw [if_pos rfl, hn]
      simp
    · rw [if_neg hk]
      cases hk2 : ixI es k 0 with
      | none => simp [Ne.symm hk]
      | some j =>
        have := (ixI_lt es k 0 j hk2).2
        simp only [Option.bind_some]
        rw [List.getElem?_append_left (by omega)]
  | some j =>
    simp only
    have hj := (ixI_lt es n 0 j hn).2
    unfold lookI
    rw [ixI_set es n k x 0 j (by rw [hn]; simp)]
    by_cases hk : k = n
    · subst hk
      rw [if_pos rfl, hn]
      simp only [Option.bind_some, List.getElem?_set_self (by omega : j < es.length)]
      rfl
    · rw [if_neg hk]
      cases hk2 : ixI es k 0 with
      | none => rfl
      | some i =>
        simp only [Option.bind_some]
        by_cases hij : j = i
        · subst hij
          obtain ⟨_, x1, h1⟩ := ixI_at es n 0 j hn
          obtain ⟨_, x2, h2⟩ := ixI_at es k 0 j hk2
          rw [h1] at h2
          simp at h2
          exact absurd h2.1.symm hk
        · rw [List.getElem?_set_ne hij]

/-- The heap that a memory is. -/
def heapL (d : List (Int × List V)) : List Int → List (Int × Value) → List O → List O
  | [], _, _ => []
  | n :: l, sn, mo => match lookI sn n with
    | some _ => match mo with
      | x :: mo => (n, x.2) :: heapL d l sn mo
      | [] => []
    | none => (n, (lookI d n).getD []) :: heapL d l (updI sn n (.bool true)) mo
/-- There is enough of everything. -/
def heapP (d : List (Int × List V)) : List Int → List (Int × Value) → List O → Prop
  | [], _, _ => True
  | n :: l, sn, mo => match lookI sn n with
    | some _ => match mo with
      | x :: mo => SmV x.2 ∧ heapP d l sn mo
      | [] => False
    | none => (∃ fs, lookI d n = some fs ∧ SmV fs) ∧ heapP d l (updI sn n (.bool true)) mo
def encM (d : List (Int × List V)) : List (Int × Value) := d.map fun x => (x.1, encFs x.2)


/-! ### The loop -/
def moX (_ mo : List O) : Value := encOs mo
def ouX (ou : List O) : Value := match ou with
  | [] => .slice none 0 0
  | _ :: _ => ouV ou.length
def olX (ou : List O) : List (Nat × HObj) := match ou with
  | [] => []
  | _ :: _ => [ouR (flatV (ou.map encO))]
def heSt (os : List O) (e : Eff) (d : List (Int × List V)) (od : List Int) (m0 ou : List O) (sn : List (Int × Value)) : St :=
  heS os e (encM d) (frz (ids od)) (moX m0 m0) (ouX ou) sn (olX ou)

theorem ouX_snoc (ou : List O) (o : O) : ouX (ou ++ [o]) = ouV (ou.length + 1) := by
  cases ou with
  | nil => rfl
  | cons x l => show ouV (x :: l ++ [o]).length = _; simp
theorem olX_snoc (ou : List O) (o : O) : olX (ou ++ [o]) = [ouR (flatV (ou.map encO) ++ [.int .i64 o.1, encFs o.2])] := by
  have h : flatV ((ou ++ [o]).map encO) = flatV (ou.map encO) ++ [.int .i64 o.1, encFs o.2] := by rw [List.map_append, flatV_app]; rfl
  cases ou with
  | nil => rfl
  | cons x l => show [ouR (flatV ((x :: l ++ [o]).map encO))] = _; rw [h]

section
variable (os : List O) (e : Eff) (d : List (Int × List V)) (od : List Int) (m0 : List O)

theorem he_new {k : Nat} {i : Int} (hk : od[k]? = some i) (hn : od.length ≤ 100000) {sn : List (Int × Value)} (hs : lookI sn i = none) {fs : List V} (hd : lookI d i = some fs) (hv : SmV fs) (mo ou : List O) (ho : ou.length ≤ 100000)
    {Q : HX → St → HF → Prop} (hQ : Q .normal (heSt os e d od m0 (ou ++ [(i, fs)]) (updI sn i (.bool true))) (heF (moX m0 mo) (frz (ids od)) od.length (IntKind.wrap IntKind.i64 ((k : Int) + 1)))) :
    Ex Tryd.prog 10 (flatC (loopIn (nth (pcs Tryd.prog 21) 5))) (heSt os e d od m0 ou sn) (heF (moX m0 mo) (frz (ids od)) od.length k) Q := by
  have hlt : k < od.length := by
    rcases Nat.lt_or_ge k od.length with h | h
    · exact h
    · rw [List.getElem?_eq_none h] at hk; cases hk
  have hidx : 0 ≤ ((k : Nat) : Int) ∧ (List.map (fun i => Value.int IntKind.i64 i) od)[((k : Nat) : Int).toNat]? = some (.int .i64 i) := ⟨by omega, by simp [hk]⟩
  have hdec : decide (((k : Nat) : Int) < ((od.length : Nat) : Int)) = true := by simp; omega
  have hsn : (lookI sn i).isSome = false := by rw [hs]; rfl
  have hcl : relCl [frz (List.map encV fs)] (frz (List.map encV fs)) := ⟨fs, hv, rfl, rfl⟩
  have hd1 : lookI (encM d) i = some (frz (List.map encV fs)) := by unfold encM; rw [lookI_map encFs, hd]; rfl
  have hd2 : (lookI (encM d) i).isSome = true := by rw [hd1]; rfl
  unfold heSt at hQ ⊢
  rw [ouX_snoc, olX_snoc] at hQ
  cases ou with
  | nil => exact Ex.stepN noGT kHe_ok 99 58 0 14 (he_1 os e (encM d) sn od m0 mo [] 0 k i fs (0, []) []) rfl (.cons rfl (.cons rfl (.cons hcl (.cons hd1 (.cons hd2 (.cons rfl (.cons hsn (.cons hidx (.cons hdec .nil))))))))) (Ex.nil hQ)
  | cons z ou =>
    have b1 : (z :: ou).length * 2 = (flatV ((z :: ou).map encO)).length := (flatV_O_len _).symm
    have b2 : (Nat.ble (((z :: ou).length + 1) * 32) 140737488355328 && Nat.ble ((z :: ou).length + 1) 4611686018427387904) = true := apOK (by omega) (by omega)
    exact Ex.stepN noGT kHe_ok 99 58 0 14 (he_2 os e (encM d) sn od m0 mo (flatV ((z :: ou).map encO)) (z :: ou).length k i fs (0, []) []) rfl (.cons b1 (.cons b2 (.cons rfl (.cons hcl (.cons hd1 (.cons hd2 (.cons rfl (.cons hsn (.cons hidx (.cons hdec .nil)))))))))) (Ex.nil hQ)

theorem he_dup {k : Nat} {i : Int} (hk : od[k]? = some i) (hn : od.length ≤ 100000) {sn : List (Int × Value)} (hs : lookI sn i = some (.bool true)) {x : O} (hv : SmV x.2) (mo ou : List O) (ho : ou.length ≤ 100000) (ho0 : ou ≠ [])
    {Q : HX → St → HF → Prop} (hQ : Q .normal (heSt os e d od m0 (ou ++ [(i, x.2)]) sn) (heF (moX m0 mo) (frz (ids od)) od.length (IntKind.wrap IntKind.i64 ((k : Int) + 1)))) :
    Ex Tryd.prog 10 (flatC (loopIn (nth (pcs Tryd.prog 21) 5))) (heSt os e d od m0 ou sn) (heF (moX m0 (x :: mo)) (frz (ids od)) od.length k) Q := by
  have hlt : k < od.length := by
    rcases Nat.lt_or_ge k od.length with h | h
    · exact h
    · rw [List.getElem?_eq_none h] at hk; cases hk
  have hidx : 0 ≤ ((k : Nat) : Int) ∧ (List.map (fun i => Value.int IntKind.i64 i) od)[((k : Nat) : Int).toNat]? = some (.int .i64 i) := ⟨by omega, by simp [hk]⟩
  have hdec : decide (((k : Nat) : Int) < ((od.length : Nat) : Int)) = true := by simp; omega
  have hsn : (lookI sn i).isSome = true := by rw [hs]; rfl
  have hcl : relCl [frz (List.map encV x.2)] (frz (List.map encV x.2)) := ⟨x.2, hv, rfl, rfl⟩
  have hp : (posO (some 1) && Nat.ble 1 (List.map encO (x :: mo)).length) = true ∧ (List.map encO (x :: mo) = [] ∨ ∀ v ∈ List.map encO (x :: mo), v.cells.size = 2) := ⟨by simp [posO], .inr (flatV_encO _)⟩
  unfold heSt at hQ ⊢
  rw [ouX_snoc, olX_snoc] at hQ
  cases ou with
  | nil => exact absurd rfl ho0
  | cons z ou =>
    have b1 : (z :: ou).length * 2 = (flatV ((z :: ou).map encO)).length := (flatV_O_len _).symm
    have b2 : (Nat.ble (((z :: ou).length + 1) * 32) 140737488355328 && Nat.ble ((z :: ou).length + 1) 4611686018427387904) = true := apOK (by omega) (by omega)
    refine Ex.stepN noGT kHe_ok 99 58 0 14 (he_d os e (encM d) sn od m0 (x :: mo) (flatV ((z :: ou).map encO)) (z :: ou).length k i x.2 x []) rfl (.cons hp (.cons b1 (.cons b2 (.cons rfl (.cons hcl (.cons ⟨Int.le_refl _, rfl⟩ (.cons rfl (.cons hs (.cons hsn (.cons hidx (.cons hdec .nil))))))))))) (Ex.nil ?_)
    have e1 : List.take ((List.map encO (x :: mo)).length - 1) (List.drop 1 (List.map encO (x :: mo))) = List.map encO mo := by
      simp only [List.map_cons, List.length_cons, Nat.add_sub_cancel, List.drop_succ_cons, List.drop_zero]
      rw [List.take_of_length_le (Nat.le_refl _)]
    rw [e1]
    exact hQ
end


/-! ### All of it -/
theorem he_l5 : (pcs Tryd.prog 21).drop 5 = .block 0 (.loop (loopIn (nth (pcs Tryd.prog 21) 5))) :: (pcs Tryd.prog 21).drop 6 := by kernel_rfl

theorem he_end (os : List O) (e : Eff) (ou : List O) : Ex Tryd.prog 10 ((pcs Tryd.prog 21).drop 6) (heZ os e (ouX ou) (olX ou)) heG (FinQ Tryd.prog Tryd.f21 10 (fun u t => u = encH ou ∧ t = mkSt (parksZ os e) 14 0)) := by
  cases ou with
  | nil => exact Ex.stepN noGT kHe_ok 99 58 0 14 (he_e1 os e [] [] [] [] [] [] 0 0 0 [] (0, []) []) rfl .nil (FinQ.mk' (.inr rfl) (he_f1 os e [] [] [] [] [] [] 0 0 0 [] (0, []) []) rfl .nil ⟨rfl, rfl⟩)
  | cons x l => exact Ex.stepN noGT kHe_ok 99 58 0 14 (he_e2 os e [] [] [] [] [] (flatV ((x :: l).map encO)) (x :: l).length 0 0 [] (0, []) []) rfl .nil (FinQ.mk' (.inr rfl) (he_f2 os e [] [] [] [] [] (flatV ((x :: l).map encO)) (x :: l).length 0 0 [] (0, []) (x :: l)) rfl (.cons ⟨rfl, flatV_encO _, by omega⟩ (.cons (by simp) .nil)) ⟨rfl, rfl⟩)

theorem he_exit (os : List O) (e : Eff) (d : List (Int × List V)) (od : List Int) (m0 mo ou : List O) (sn : List (Int × Value)) {k : Nat} (hl : od.length = k) {Q : HX → St → HF → Prop} (hQ : Q (.exit 0) (heZ os e (ouX ou) (olX ou)) heG) :
    Ex Tryd.prog 10 (flatC (loopIn (nth (pcs Tryd.prog 21) 5))) (heSt os e d od m0 ou sn) (heF (moX m0 mo) (frz (ids od)) od.length k) Q := by
  have hdec : decide (((k : Nat) : Int) < ((od.length : Nat) : Int)) = false := by simp; omega
  unfold heSt
  cases ou with
  | nil => exact Ex.stepN noGT kHe_ok 99 58 0 14 (he_x1 os e (encM d) sn od m0 mo [] 0 k 0 [] (0, []) []) rfl (.cons hdec .nil) hQ
  | cons z ou => exact Ex.stepN noGT kHe_ok 99 58 0 14 (he_x2 os e (encM d) sn od m0 mo (flatV ((z :: ou).map encO)) (z :: ou).length k 0 [] (0, []) []) rfl (.cons hdec .nil) hQ

theorem he_loop (os : List O) (e : Eff) (d : List (Int × List V)) (od : List Int) (m0 : List O) (hn : od.length ≤ 100000) (hP : heapP d od [] m0) :
    Ex Tryd.prog 10 ((pcs Tryd.prog 21).drop 5) (heSt os e d od m0 [] []) (heF (moX m0 m0) (frz (ids od)) od.length 0)
      (FinQ Tryd.prog Tryd.f21 10 (fun u t => u = encH (heapL d od [] m0) ∧ t = mkSt (parksZ os e) 14 0)) := by
  rw [he_l5]
  refine Ex.loop (fun m s f => ∃ p q sn mo ou, od = p ++ q ∧ q.length = m ∧ heapP d q sn mo ∧ heapL d od [] m0 = ou ++ heapL d q sn mo ∧ (∀ n v, lookI sn n = some v → v = .bool true) ∧ ou.length = p.length ∧ (p = [] → sn = []) ∧
    s = heSt os e d od m0 ou sn ∧ f = heF (moX m0 mo) (frz (ids od)) od.length p.length) ?_ ⟨[], od, [], m0, [], rfl, rfl, hP, rfl, (by intro n v h; cases h), rfl, fun _ => rfl, rfl, rfl⟩
  rintro m s f ⟨p, q, sn, mo, ou, hos, hm, hp, hL, hsn, hou, hp0, rfl, rfl⟩
  have hpl : p.length ≤ od.length := by rw [hos]; simp
  cases q with
  | nil =>
    have : od = p := by simpa using hos
    refine he_exit os e d od m0 mo ou sn (by rw [this]) ?_
    refine rndQ.out ?_
    rw [hL]
    simpa [heapL] using he_end os e ou
  | cons i q =>
    have hk : od[p.length]? = some i := by rw [hos]; exact at_split p i q
    have hlt : p.length < od.length := by rw [hos]; simp
    have hw : IntKind.wrap IntKind.i64 ((p.length : Int) + 1) = ((p ++ [i]).length : Int) := by
      rw [IntWalk.i64_in _ (by omega)]; simp
    unfold heapP at hp
    cases hs : lookI sn i with
    | none =>
      rw [hs] at hp
      obtain ⟨⟨fs, h1, h2⟩, h3⟩ := hp
      have hL2 : heapL d (i :: q) sn mo = (i, fs) :: heapL d q (updI sn i (.bool true)) mo := by simp only [heapL, hs, h1]; rfl
      refine he_new os e d od m0 hk hn hs h1 h2 mo ou (by omega) ?_
      rw [hw]
      refine ⟨m - 1, by simp at hm; omega, p ++ [i], q, updI sn i (.bool true), mo, ou ++ [(i, fs)], by simp [hos], by simp at hm; omega, h3, ?_, ?_, by simp [hou], fun h => absurd h (by simp), rfl, rfl⟩
      · rw [hL, hL2]; simp
      · intro n v hv
        rw [lookI_upd] at hv
        split at hv
        · cases hv; rfl
        · exact hsn n v hv
    | some v =>
      have hv := hsn i v hs
      subst hv
      rw [hs] at hp
      cases mo with
      | nil => exact hp.elim
      | cons x mo =>
        obtain ⟨h1, h2⟩ := hp
        have hL2 : heapL d (i :: q) sn (x :: mo) = (i, x.2) :: heapL d q sn mo := by simp only [heapL, hs]
        have ho0 : ou ≠ [] := fun h => by
          have : p = [] := List.eq_nil_of_length_eq_zero (by rw [← hou, h]; rfl)
          rw [hp0 this] at hs
          cases hs
        refine he_dup os e d od m0 hk hn hs h1 mo ou (by omega) ho0 ?_
        rw [hw]
        refine ⟨m - 1, by simp at hm; omega, p ++ [i], q, sn, mo, ou ++ [(i, x.2)], by simp [hos], by simp at hm; omega, h2, ?_, hsn, by simp [hou], fun h => absurd h (by simp), rfl, rfl⟩
        rw [hL, hL2]; simp


theorem he_turn0 (os : List O) (e : Eff) (d : List (Int × List V)) (od mc : Value) : Turn (mkSt (parks os e ++ [(3, .omap (encM d)), (4, .row false [.map (some 3), od, mc] 99), (10, .row false [.slice none 0 0] 35), (11, .row false [.slice none 0 0] 35), (12, .map [] 0)]) 14 0)
    (heS os e (encM d) od mc (.slice none 0 0) [] []) := turn_omap (i := 12) (k := 0) (by kernel_rfl) (by kernel_rfl) rfl rfl

theorem melt_ok (d : List (Int × List V)) : ∀ (j : Nat) (x : Int × List Value) (y : Int × Value), (encD d)[j]? = some x → (encM d)[j]? = some y → x.1 = y.1 ∧ ∃ els, y.2 = frz els ∧ flatV els = x.2 ∧ ∀ v ∈ els, v.cells.size = 2 := by
  intro j x y hx hy
  unfold encD at hx
  unfold encM at hy
  rw [List.getElem?_map] at hx hy
  cases hd : d[j]? with
  | none => rw [hd] at hx; cases hx
  | some z =>
    rw [hd] at hx hy
    cases hx; cases hy
    exact ⟨rfl, z.2.map encV, rfl, rfl, flatV_encV _⟩
theorem melt_len (d : List (Int × List V)) : (encD d).length = (encM d).length := by simp [encD, encM]

/-- The memory, more being frozen. -/
def memF (os : List O) (e : Eff) (m : Me) (l : List (Nat × HObj)) : St := match m.od with
  | [] => memT os e (.dmap (encD m.d) 2) (.slice none 0 0) (encOs m.mo) l 10
  | x :: r => memT os e (.dmap (encD m.d) 2) (odW (x :: r)) (encOs m.mo) (odQ (x :: r) :: l) 10
theorem ids_flat (l : List Int) : flatV (List.map (fun i => Value.int IntKind.i64 i) l) = List.map (fun i => Value.int IntKind.i64 i) l ∧ (∀ v ∈ List.map (fun i => Value.int IntKind.i64 i) l, v.cells.size = 1) ∧ 0 < 1 := by
  refine ⟨?_, ?_, by omega⟩
  · induction l with
    | nil => rfl
    | cons a l ih =>
      show [Value.int IntKind.i64 a] ++ flatV (List.map (fun i => Value.int IntKind.i64 i) l) = _
      rw [ih]; rfl
  · intro v hv
    obtain ⟨x, _, rfl⟩ := List.mem_map.1 hv
    rfl
theorem he_ok (os : List O) (e : Eff) (m : Me) (hn : m.od = [] → m.mo = []) (h1 : m.od.length ≤ 100000) (hP : heapP m.d m.od [] m.mo) :
    FnEx Tryd.prog 21 [.pointer (some ⟨4, 0, none⟩)] (memF os e m []) (fun u t => u = encH (heapL m.d m.od [] m.mo) ∧ t = mkSt (parksZ os e) 14 0) := by
  obtain ⟨d, od, mo⟩ := m
  have hnx : (memF os e ⟨d, od, mo⟩ []).next = 10 := by
    unfold memF
    split <;> rfl
  refine FnEx.enter (n0 := 10) (fn := Tryd.f21) (c := bodyOf Tryd.prog 21) Tryd.func21 (by kernel_rfl) rfl hnx ?_
  show Ex _ _ (pcs Tryd.prog 21) _ _ _
  have hlen : ∀ l : List Int, l.length = (List.map (fun i => Value.int IntKind.i64 i) l).length := fun l => by simp
  cases od with
  | nil =>
    obtain rfl : mo = [] := hn rfl
    refine Ex.turn (s2 := memT os e (.omap (encM d)) (.slice none 0 0) (encOs []) [] 10) (turn_melt (i := 3) (z := 2) (by omega) (melt_len d) (melt_ok d) (by kernel_rfl) (by kernel_rfl) rfl rfl) ?_
    refine Ex.stepN noGT kHe_ok 5 58 0 14 (he_a1 os e (encM d) [] []) rfl .nil ?_
    refine Ex.turn (he_turn0 os e d _ _) ?_
    show Ex _ _ ((pcs Tryd.prog 21).drop 5) _ _ _
    rw [he_l5]
    refine Ex.loop (fun m s f => s = heS os e (encM d) (.slice none 0 0) (encOs []) (.slice none 0 0) [] [] ∧ f = heF (encOs []) (.slice none 0 0) 0 0) ?_ (m := 0) ⟨rfl, rfl⟩
    rintro m s f ⟨rfl, rfl⟩
    refine Ex.stepN noGT kHe_ok 99 58 0 14 (he_xN os e (encM d) [] [] [] [] [] 0 0 0 [] (0, []) []) rfl (.cons rfl .nil) ?_
    refine goOn.out ?_
    exact he_end os e []
  | cons x l =>
    refine Ex.turn (s2 := memT os e (.omap (encM d)) (odW (x :: l)) (encOs mo) [odQ (x :: l)] 10) (turn_melt (i := 3) (z := 2) (by omega) (melt_len d) (melt_ok d) (by kernel_rfl) (by kernel_rfl) rfl rfl) ?_
    refine Ex.stepN noGT kHe_ok 5 58 0 14 (he_a2 os e (encM d) (x :: l) mo) rfl (.cons (ids_flat _) (.cons (hlen _) (.cons (hlen _) .nil))) ?_
    refine Ex.turn (he_turn0 os e d _ _) ?_
    exact he_loop os e d (x :: l) mo h1 hP

end Go.Proofs.MA
