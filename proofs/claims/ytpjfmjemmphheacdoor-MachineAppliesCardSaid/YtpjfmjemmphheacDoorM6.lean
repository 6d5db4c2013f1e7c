/- MachineApplies: IndexFunc. Conditions: none. -/
import Derived.Test.YtpjfmjemmphheacDoorM5
set_option linter.all false
set_option linter.unusedVariables false
set_option linter.unusedSimpArgs false
namespace Go.Proofs.MA
open Go Go.Hx Go.RowKit Go.Proofs
set_option maxRecDepth 100000

def effR (e : Eff) : Nat × HObj := (7, .row false (cellsE e) 33)
def obR (o : O) : Nat × HObj := (10, .row false [.int .i64 o.1, encFs o.2] 64)
def fnV : Value := .func (.func 37) ⟨[]⟩ ⟨[.pointer (some ⟨10, 0, none⟩)]⟩
/-- Where IndexFunc is called. -/
def ixS (os : List O) (e : Eff) (d : List (Int × List Value)) (od : Value) (mo : List O) (ol : List (Nat × HObj)) (o : O) : St := memT os e (.dmap d 2) od (encOs mo) (ol ++ [effR e, obR o]) 11

theorem ix_a1 (os : List O) (e : Eff) (d : List (Int × List Value)) (l : List Int) (mo : List O) (o : O) (k i : Int) : hrun Tryd.prog kIn 5 ((pcs Tryd.prog 36).take 2) (ixS os e d (.slice none 0 0) mo [] o) (entF [(.slice none 0 0), fnV] 19) [] [] ⟨[(0, 0, false), (1, 1, false), (2, 2, false), (3, 3, false), (4, 4, false), (7, 7, false), (10, 10, false)], [], [0, 1, 7, 8], 11, 11, false⟩ =
    some (HX.normal, [(0, HObj.row false [frz (List.map encO os)] 35), (1, HObj.row false (cellsE e) 33), (2, HObj.row false [Value.slice none 0 0] 35), (3, HObj.dmap d 2), (4, HObj.row false [Value.map (some 3), Value.slice none 0 0, frz (List.map encO mo)] 99), (7, HObj.row false (cellsE e) 33), (10, HObj.row false [Value.int IntKind.i64 o.fst, frz (List.map encV o.snd)] 64)], [(0, Value.slice none 0 0), (1, Value.func (Fn.func 37) { toList := [] } { toList := [Value.pointer (some { block := 10, off := 0 })] }), (7, Value.int IntKind.i64 ↑0), (8, Value.int IntKind.i64 0)], []) := by kernel_rfl

theorem ix_x1 (os : List O) (e : Eff) (d : List (Int × List Value)) (l : List Int) (mo : List O) (o : O) (k i : Int) : hrun Tryd.prog kIn 5 (flatC (loopIn (nth (pcs Tryd.prog 36) 2))) (ixS os e d (.slice none 0 0) mo [] o) (mkF [(0, (.slice none 0 0)), (1, fnV), (7, .int .i64 0), (8, .int .i64 k)] 19) [false] [] ⟨[(0, 0, false), (1, 1, false), (2, 2, false), (3, 3, false), (4, 4, false), (7, 7, false), (10, 10, false)], [], [], 11, 11, false⟩ =
    some (HX.exit 0, [(0, HObj.row false [frz (List.map encO os)] 35), (1, HObj.row false (cellsE e) 33), (2, HObj.row false [Value.slice none 0 0] 35), (3, HObj.dmap d 2), (4, HObj.row false [Value.map (some 3), Value.slice none 0 0, frz (List.map encO mo)] 99), (7, HObj.row false (cellsE e) 33), (10, HObj.row false [Value.int IntKind.i64 o.fst, frz (List.map encV o.snd)] 64)], [], [decide (k < 0) = false]) := by kernel_rfl

theorem ix_e1 (os : List O) (e : Eff) (d : List (Int × List Value)) (l : List Int) (mo : List O) (o : O) (k i : Int) : hrun Tryd.prog kIn 5 ((pcs Tryd.prog 36).drop 3) (ixS os e d (.slice none 0 0) mo [] o) (mkF [] 19) [] [] ⟨[(0, 0, false), (1, 1, false), (2, 2, false), (3, 3, false), (4, 4, false), (7, 7, false), (10, 10, false)], [], [4], 11, 11, false⟩ =
    some (HX.ret, [(0, HObj.row false [frz (List.map encO os)] 35), (1, HObj.row false (cellsE e) 33), (2, HObj.row false [Value.slice none 0 0] 35), (3, HObj.dmap d 2), (4, HObj.row false [Value.map (some 3), Value.slice none 0 0, frz (List.map encO mo)] 99), (7, HObj.row false (cellsE e) 33), (10, HObj.row false [Value.int IntKind.i64 o.fst, frz (List.map encV o.snd)] 64)], [(4, Value.int IntKind.i64 (-1))], []) := by kernel_rfl

theorem ix_f1 (os : List O) (e : Eff) (d : List (Int × List Value)) (l : List Int) (mo : List O) (o : O) (k i : Int) : hfin Tryd.prog Tryd.f36 (ixS os e d (.slice none 0 0) mo [] o) (mkF [(4, .int .i64 k)] 19) [] ⟨[(0, 0, false), (1, 1, false), (2, 2, false), (3, 3, false), (4, 4, false), (7, 7, false), (10, 10, false)], [], [], 11, 11, false⟩ =
    some (Value.int IntKind.i64 k, [(0, HObj.row false [frz (List.map encO os)] 35), (1, HObj.row false (cellsE e) 33), (2, HObj.row false [Value.slice none 0 0] 35), (3, HObj.dmap d 2), (4, HObj.row false [Value.map (some 3), Value.slice none 0 0, frz (List.map encO mo)] 99), (7, HObj.row false (cellsE e) 33), (10, HObj.row false [Value.int IntKind.i64 o.fst, frz (List.map encV o.snd)] 64)], []) := by kernel_rfl

theorem ix_a2 (os : List O) (e : Eff) (d : List (Int × List Value)) (l : List Int) (mo : List O) (o : O) (k i : Int) : hrun Tryd.prog kIn 5 ((pcs Tryd.prog 36).take 2) (ixS os e d (odW l) mo [odQ l] o) (entF [(odW l), fnV] 19) [] [] ⟨[(0, 0, false), (1, 1, false), (2, 2, false), (3, 3, false), (4, 4, false), (7, 7, false), (10, 10, false), (9, 9, true)], [], [0, 1, 7, 8], 11, 11, false⟩ =
    some (HX.normal, [(0, HObj.row false [frz (List.map encO os)] 35), (1, HObj.row false (cellsE e) 33), (2, HObj.row false [Value.slice none 0 0] 35), (3, HObj.dmap d 2), (4, HObj.row false [Value.map (some 3), Value.slice (some { block := 9, off := 0 }) (List.length l) 9223372036854775809, frz (List.map encO mo)] 99), (7, HObj.row false (cellsE e) 33), (10, HObj.row false [Value.int IntKind.i64 o.fst, frz (List.map encV o.snd)] 64), (9, HObj.row true (List.map (fun i => Value.int IntKind.i64 i) l) 2)], [(0, Value.slice (some { block := 9, off := 0 }) (List.length l) 9223372036854775809), (1, Value.func (Fn.func 37) { toList := [] } { toList := [Value.pointer (some { block := 10, off := 0 })] }), (7, Value.int IntKind.i64 ↑(List.length l)), (8, Value.int IntKind.i64 0)], []) := by kernel_rfl

theorem ix_r (os : List O) (e : Eff) (d : List (Int × List Value)) (l : List Int) (mo : List O) (o : O) (k i : Int) : hrun Tryd.prog kIn 5 (flatC (loopIn (nth (pcs Tryd.prog 36) 2))) (ixS os e d (odW l) mo [odQ l] o) (mkF [(0, (odW l)), (1, fnV), (7, .int .i64 l.length), (8, .int .i64 k)] 19) [true, false] [[.int .i64 i]] ⟨[(0, 0, false), (1, 1, false), (2, 2, false), (3, 3, false), (4, 4, false), (7, 7, false), (10, 10, false), (9, 9, true)], [], [0, 1, 7, 8], 11, 11, false⟩ =
    some (HX.normal, [(0, HObj.row false [frz (List.map encO os)] 35), (1, HObj.row false (cellsE e) 33), (2, HObj.row false [Value.slice none 0 0] 35), (3, HObj.dmap d 2), (4, HObj.row false [Value.map (some 3), Value.slice (some { block := 9, off := 0 }) (List.length l) 9223372036854775809, frz (List.map encO mo)] 99), (7, HObj.row false (cellsE e) 33), (10, HObj.row false [Value.int IntKind.i64 o.fst, frz (List.map encV o.snd)] 64), (9, HObj.row true (List.map (fun i => Value.int IntKind.i64 i) l) 2)], [(0, Value.slice (some { block := 9, off := 0 }) (List.length l) 9223372036854775809), (1, Value.func (Fn.func 37) { toList := [] } { toList := [Value.pointer (some { block := 10, off := 0 })] }), (7, Value.int IntKind.i64 ↑(List.length l)), (8, Value.int IntKind.i64 (IntKind.wrap IntKind.i64 (k + 1)))], [decide (i > o.fst) = false, 0 + Int.toNat k * 1 + 1 ≤ List.length (List.map (fun i => Value.int IntKind.i64 i) l) ∧ List.take 1 (List.drop (0 + Int.toNat k * 1) (List.map (fun i => Value.int IntKind.i64 i) l)) = [Value.int IntKind.i64 i], (decide (0 ≤ k) && decide (k < ↑(List.length l))) = true, decide (k < ↑(List.length l)) = true]) := by kernel_rfl

theorem ix_h (os : List O) (e : Eff) (d : List (Int × List Value)) (l : List Int) (mo : List O) (o : O) (k i : Int) : hrun Tryd.prog kIn 5 (flatC (loopIn (nth (pcs Tryd.prog 36) 2))) (ixS os e d (odW l) mo [odQ l] o) (mkF [(0, (odW l)), (1, fnV), (7, .int .i64 l.length), (8, .int .i64 k)] 19) [true, true] [[.int .i64 i]] ⟨[(0, 0, false), (1, 1, false), (2, 2, false), (3, 3, false), (4, 4, false), (7, 7, false), (10, 10, false), (9, 9, true)], [], [4], 11, 11, false⟩ =
    some (HX.ret, [(0, HObj.row false [frz (List.map encO os)] 35), (1, HObj.row false (cellsE e) 33), (2, HObj.row false [Value.slice none 0 0] 35), (3, HObj.dmap d 2), (4, HObj.row false [Value.map (some 3), Value.slice (some { block := 9, off := 0 }) (List.length l) 9223372036854775809, frz (List.map encO mo)] 99), (7, HObj.row false (cellsE e) 33), (10, HObj.row false [Value.int IntKind.i64 o.fst, frz (List.map encV o.snd)] 64), (9, HObj.row true (List.map (fun i => Value.int IntKind.i64 i) l) 2)], [(4, Value.int IntKind.i64 k)], [decide (i > o.fst) = true, 0 + Int.toNat k * 1 + 1 ≤ List.length (List.map (fun i => Value.int IntKind.i64 i) l) ∧ List.take 1 (List.drop (0 + Int.toNat k * 1) (List.map (fun i => Value.int IntKind.i64 i) l)) = [Value.int IntKind.i64 i], (decide (0 ≤ k) && decide (k < ↑(List.length l))) = true, decide (k < ↑(List.length l)) = true]) := by kernel_rfl

theorem ix_x2 (os : List O) (e : Eff) (d : List (Int × List Value)) (l : List Int) (mo : List O) (o : O) (k i : Int) : hrun Tryd.prog kIn 5 (flatC (loopIn (nth (pcs Tryd.prog 36) 2))) (ixS os e d (odW l) mo [odQ l] o) (mkF [(0, (odW l)), (1, fnV), (7, .int .i64 l.length), (8, .int .i64 k)] 19) [false] [] ⟨[(0, 0, false), (1, 1, false), (2, 2, false), (3, 3, false), (4, 4, false), (7, 7, false), (10, 10, false), (9, 9, true)], [], [], 11, 11, false⟩ =
    some (HX.exit 0, [(0, HObj.row false [frz (List.map encO os)] 35), (1, HObj.row false (cellsE e) 33), (2, HObj.row false [Value.slice none 0 0] 35), (3, HObj.dmap d 2), (4, HObj.row false [Value.map (some 3), Value.slice (some { block := 9, off := 0 }) (List.length l) 9223372036854775809, frz (List.map encO mo)] 99), (7, HObj.row false (cellsE e) 33), (10, HObj.row false [Value.int IntKind.i64 o.fst, frz (List.map encV o.snd)] 64), (9, HObj.row true (List.map (fun i => Value.int IntKind.i64 i) l) 2)], [], [decide (k < ↑(List.length l)) = false]) := by kernel_rfl

theorem ix_e2 (os : List O) (e : Eff) (d : List (Int × List Value)) (l : List Int) (mo : List O) (o : O) (k i : Int) : hrun Tryd.prog kIn 5 ((pcs Tryd.prog 36).drop 3) (ixS os e d (odW l) mo [odQ l] o) (mkF [] 19) [] [] ⟨[(0, 0, false), (1, 1, false), (2, 2, false), (3, 3, false), (4, 4, false), (7, 7, false), (10, 10, false), (9, 9, true)], [], [4], 11, 11, false⟩ =
    some (HX.ret, [(0, HObj.row false [frz (List.map encO os)] 35), (1, HObj.row false (cellsE e) 33), (2, HObj.row false [Value.slice none 0 0] 35), (3, HObj.dmap d 2), (4, HObj.row false [Value.map (some 3), Value.slice (some { block := 9, off := 0 }) (List.length l) 9223372036854775809, frz (List.map encO mo)] 99), (7, HObj.row false (cellsE e) 33), (10, HObj.row false [Value.int IntKind.i64 o.fst, frz (List.map encV o.snd)] 64), (9, HObj.row true (List.map (fun i => Value.int IntKind.i64 i) l) 2)], [(4, Value.int IntKind.i64 (-1))], []) := by kernel_rfl

theorem ix_f2 (os : List O) (e : Eff) (d : List (Int × List Value)) (l : List Int) (mo : List O) (o : O) (k i : Int) : hfin Tryd.prog Tryd.f36 (ixS os e d (odW l) mo [odQ l] o) (mkF [(4, .int .i64 k)] 19) [] ⟨[(0, 0, false), (1, 1, false), (2, 2, false), (3, 3, false), (4, 4, false), (7, 7, false), (10, 10, false), (9, 9, true)], [], [], 11, 11, false⟩ =
    some (Value.int IntKind.i64 k, [(0, HObj.row false [frz (List.map encO os)] 35), (1, HObj.row false (cellsE e) 33), (2, HObj.row false [Value.slice none 0 0] 35), (3, HObj.dmap d 2), (4, HObj.row false [Value.map (some 3), Value.slice (some { block := 9, off := 0 }) (List.length l) 9223372036854775809, frz (List.map encO mo)] 99), (7, HObj.row false (cellsE e) 33), (10, HObj.row false [Value.int IntKind.i64 o.fst, frz (List.map encV o.snd)] 64), (9, HObj.row true (List.map (fun i => Value.int IntKind.i64 i) l) 2)], []) := by kernel_rfl

end Go.Proofs.MA

namespace Go.Proofs.MA
open Go Go.Hx Go.RowKit Go.Proofs
set_option maxRecDepth 100000

/-- The first place with a greater number. -/
def gtI : List Int → Int → Nat → Int
  | [], _, _ => -1
  | x :: l, id, i => if x > id then (i : Int) else gtI l id (i + 1)
theorem ix_l2 : (pcs Tryd.prog 36).drop 2 = .block 0 (.loop (loopIn (nth (pcs Tryd.prog 36) 2))) :: (pcs Tryd.prog 36).drop 3 := by kernel_rfl

theorem ix_ok1 (os : List O) (e : Eff) (d : List (Int × List Value)) (mo : List O) (o : O) :
    FnEx Tryd.prog 36 [.slice none 0 0, fnV] (ixS os e d (.slice none 0 0) mo [] o) (fun u t => u = .int .i64 (-1) ∧ t = ixS os e d (.slice none 0 0) mo [] o) := by
  refine FnEx.enter (n0 := 11) (fn := Tryd.f36) (c := bodyOf Tryd.prog 36) Tryd.func36 (by kernel_rfl) rfl rfl ?_
  show Ex _ _ (pcs Tryd.prog 36) _ _ _
  refine Ex.stepN noGT kIn_ok 2 19 0 11 (ix_a1 os e d [] mo o 0 0) rfl .nil ?_
  show Ex _ _ ((pcs Tryd.prog 36).drop 2) _ _ _
  rw [ix_l2]
  refine Ex.loop (fun m s f => s = ixS os e d (.slice none 0 0) mo [] o ∧ f = mkF [(0, .slice none 0 0), (1, fnV), (7, .int .i64 0), (8, .int .i64 0)] 19) ?_ (m := 0) ⟨rfl, rfl⟩
  rintro m s f ⟨rfl, rfl⟩
  refine Ex.stepN noGT kIn_ok 99 19 0 11 (ix_x1 os e d [] mo o 0 0) rfl (.cons rfl .nil) ?_
  refine goOn.out ?_
  refine Ex.stepN noGT kIn_ok 99 19 0 11 (ix_e1 os e d [] mo o 0 0) rfl .nil ?_
  exact FinQ.mk' (.inr rfl) (ix_f1 os e d [] mo o (-1) 0) rfl .nil ⟨rfl, rfl⟩

theorem ix_ok2 (os : List O) (e : Eff) (d : List (Int × List Value)) (l : List Int) (mo : List O) (o : O) (hl : l.length ≤ 100000) :
    FnEx Tryd.prog 36 [odW l, fnV] (ixS os e d (odW l) mo [odQ l] o) (fun u t => u = .int .i64 (gtI l o.1 0) ∧ t = ixS os e d (odW l) mo [odQ l] o) := by
  refine FnEx.enter (n0 := 11) (fn := Tryd.f36) (c := bodyOf Tryd.prog 36) Tryd.func36 (by kernel_rfl) rfl rfl ?_
  show Ex _ _ (pcs Tryd.prog 36) _ _ _
  refine Ex.stepN noGT kIn_ok 2 19 0 11 (ix_a2 os e d l mo o 0 0) rfl .nil ?_
  show Ex _ _ ((pcs Tryd.prog 36).drop 2) _ _ _
  rw [ix_l2]
  refine Ex.loop (fun m s f => ∃ p q, l = p ++ q ∧ q.length = m ∧ gtI l o.1 0 = gtI q o.1 p.length ∧ s = ixS os e d (odW l) mo [odQ l] o ∧ f = mkF [(0, odW l), (1, fnV), (7, .int .i64 l.length), (8, .int .i64 p.length)] 19) ?_ ⟨[], l, rfl, rfl, rfl, rfl, rfl⟩
  rintro m s f ⟨p, q, hos, hm, hg, rfl, rfl⟩
  cases q with
  | nil =>
    have hp : l = p := by simpa using hos
    refine Ex.stepN noGT kIn_ok 99 19 0 11 (ix_x2 os e d l mo o p.length 0) rfl (.cons (by simp [hp]) .nil) ?_
    refine goOn.out ?_
    refine Ex.stepN noGT kIn_ok 99 19 0 11 (ix_e2 os e d l mo o 0 0) rfl .nil ?_
    exact FinQ.mk' (.inr rfl) (ix_f2 os e d l mo o (-1) 0) rfl .nil ⟨by rw [hg]; rfl, rfl⟩
  | cons i q =>
    have hlt : p.length < l.length := by rw [hos]; simp
    have hdec : decide (((p.length : Nat) : Int) < ((l.length : Nat) : Int)) = true := by simp; omega
    have hin : (decide (0 ≤ ((p.length : Nat) : Int)) && decide (((p.length : Nat) : Int) < ((l.length : Nat) : Int))) = true := by simp; omega
    have hcell : 0 + ((p.length : Nat) : Int).toNat * 1 + 1 ≤ (List.map (fun i => Value.int IntKind.i64 i) l).length ∧ List.take 1 (List.drop (0 + ((p.length : Nat) : Int).toNat * 1) (List.map (fun i => Value.int IntKind.i64 i) l)) = [Value.int IntKind.i64 i] := by
      refine ⟨by simp; omega, ?_⟩
      rw [hos]
      simp
    by_cases hi : i > o.1
    · refine Ex.stepN noGT kIn_ok 99 19 0 11 (ix_h os e d l mo o p.length i) rfl (.cons (by simpa using hi) (.cons hcell (.cons hin (.cons hdec .nil)))) ?_
      exact FinQ.mk' (.inr rfl) (ix_f2 os e d l mo o p.length 0) rfl .nil ⟨by rw [hg]; simp [gtI, hi], rfl⟩
    · refine Ex.stepN noGT kIn_ok 99 19 0 11 (ix_r os e d l mo o p.length i) rfl (.cons (by simpa using hi) (.cons hcell (.cons hin (.cons hdec .nil)))) ?_
      refine Ex.nil ⟨m - 1, by simp at hm; omega, p ++ [i], q, by simp [hos], by simp at hm; omega, by rw [hg]; simp [gtI, hi], rfl, ?_⟩
      have hw : IntKind.wrap IntKind.i64 ((p.length : Int) + 1) = ((p ++ [i]).length : Int) := by
        rw [IntWalk.i64_in _ (by omega)]; simp
      rw [hw]
      rfl
end Go.Proofs.MA
