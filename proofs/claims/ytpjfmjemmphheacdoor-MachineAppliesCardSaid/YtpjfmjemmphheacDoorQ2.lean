/- MachineApplies: Pick and Value of the generator. Conditions: none. -/
import Derived.Test.YtpjfmjemmphheacDoorQ1
import Derived.Test.YtpjfmjemmphheacDoorE9
set_option linter.all false
set_option linter.unusedVariables false
set_option linter.unusedSimpArgs false
namespace Go.Proofs.MA
open Go Go.Hx Go.RowKit Go.Proofs
set_option maxRecDepth 100000

def encU (us : List Int) : Value := frz (us.map fun n => .int .u8 n)
def dice (us : List Int) (at' : Int) : List Value := [encU us, .int .i64 at']

theorem pk_a (us : List Int) (a n : Int) : hrun Tryd.prog noK 5 (pcs Tryd.prog 15) (oneS (dice us a) 67) (entF [.pointer (some ⟨0, 0, none⟩), .int .i64 n] 36) [true] [] ⟨[(0, 0, false)], [], [4], 1, 1, false⟩ =
    some (HX.ret, [(0, HObj.row false [frz (List.map (fun n => Value.int IntKind.u8 n) us), Value.int IntKind.i64 a] 67)], [(4, Value.int IntKind.i64 0)], [decide (a ≥ ↑(List.length (List.map (fun n => Value.int IntKind.u8 n) us))) = true]) := by kernel_rfl

theorem pk_b (us : List Int) (a n x : Int) : hrun Tryd.prog noK 5 (pcs Tryd.prog 15) (oneS (dice us a) 67) (entF [.pointer (some ⟨0, 0, none⟩), .int .i64 n] 36) [false] [[.int .u8 x]] ⟨[(0, 0, false)], [], [4], 1, 1, false⟩ =
    some (HX.ret, [(0, HObj.row false [frz (List.map (fun n => Value.int IntKind.u8 n) us), Value.int IntKind.i64 (IntKind.wrap IntKind.i64 (a + 1))] 67)], [(4, Value.int IntKind.i64 (Int.tmod (IntKind.wrap IntKind.i64 x) n))], [(!n == 0) = true, 0 ≤ IntKind.wrap IntKind.i64 (IntKind.wrap IntKind.i64 (a + 1) - 1) ∧ (List.map (fun n => Value.int IntKind.u8 n) us)[Int.toNat (IntKind.wrap IntKind.i64 (IntKind.wrap IntKind.i64 (a + 1) - 1))]? = some (Value.int IntKind.u8 x), decide (a ≥ ↑(List.length (List.map (fun n => Value.int IntKind.u8 n) us))) = false]) := by kernel_rfl

theorem pk_f (us : List Int) (a r : Int) : hfin Tryd.prog Tryd.f15 (oneS (dice us a) 67) (mkF [(4, .int .i64 r)] 36) [] ⟨[(0, 0, false)], [], [], 1, 1, false⟩ =
    some (Value.int IntKind.i64 r, [(0, HObj.row false [frz (List.map (fun n => Value.int IntKind.u8 n) us), Value.int IntKind.i64 a] 67)], []) := by kernel_rfl

end Go.Proofs.MA

namespace Go.Proofs.MA
open Go Go.Hx Go.RowKit Go.Proofs
set_option maxRecDepth 100000

def pickF (us : List Int) (a : Nat) (n : Int) : Int × Nat := match us[a]? with
  | none => (0, a)
  | some x => (Int.tmod (IntKind.wrap .i64 x) n, a + 1)
theorem pk_ok (us : List Int) (a : Nat) (n : Int) (h : us.length ≤ 1000000) (hn : n ≠ 0) : FnEx Tryd.prog 15 [.pointer (some ⟨0, 0, none⟩), .int .i64 n] (oneS (dice us a) 67) (fun u t => u = .int .i64 (pickF us a n).1 ∧ t = oneS (dice us (pickF us a n).2) 67) := by
  refine FnEx.enter (n0 := 1) (fn := Tryd.f15) (c := bodyOf Tryd.prog 15) Tryd.func15 (by kernel_rfl) rfl rfl ?_
  have hl : (List.map (fun n => Value.int IntKind.u8 n) us).length = us.length := List.length_map ..
  unfold pickF
  cases hx : us[a]? with
  | none =>
    have hge : us.length ≤ a := by simpa using hx
    refine Ex.stepN noGT noK_ok 99 36 0 1 (pk_a us a n) rfl (.cons (by rw [hl]; simpa using hge) .nil) ?_
    exact FinQ.mk' (.inr rfl) (pk_f us a 0) rfl .nil ⟨rfl, rfl⟩
  | some x =>
    have hlt : a < us.length := by
      rcases Nat.lt_or_ge a us.length with h | h
      · exact h
      · rw [List.getElem?_eq_none h] at hx; cases hx
    have w1 : IntKind.wrap IntKind.i64 ((a : Int) + 1) = ((a + 1 : Nat) : Int) := by rw [IntWalk.i64_in _ (by omega)]; simp
    have w2 : IntKind.wrap IntKind.i64 (IntKind.wrap IntKind.i64 ((a : Int) + 1) - 1) = (a : Int) := by rw [w1, IntWalk.i64_in _ (by omega)]; omega
    refine Ex.stepN noGT noK_ok 99 36 0 1 (pk_b us a n x) rfl (.cons (by simpa using hn) (.cons (by rw [w2]; exact ⟨by omega, map_at hx⟩) (.cons (by rw [hl]; simp; omega) .nil))) ?_
    rw [w1]
    exact FinQ.mk' (.inr rfl) (pk_f us _ _) rfl .nil ⟨rfl, rfl⟩
theorem pickF_lt (us : List Int) (a : Nat) (n : Int) (hn : 0 < n) : (pickF us a n).1 < n := by
  unfold pickF
  split
  · exact hn
  · exact Int.tmod_lt_of_pos _ hn
def relPk : RRel := fun c rest v c' => ∃ (us : List Int) (a : Nat) (n : Int), us.length ≤ 1000000 ∧ n ≠ 0 ∧ c = dice us a ∧ rest = [.int .i64 n] ∧ v = .int .i64 (pickF us a n).1 ∧ c' = dice us (pickF us a n).2
def kPk : HCall := rowK 67 [(15, relPk)]
theorem kPk_ok : CallOK Tryd.prog kPk := rowK_ok fun g rel hm c rest v c' h => by
  simp only [List.mem_cons, Prod.mk.injEq, List.mem_nil_iff, or_false] at hm
  obtain ⟨rfl, rfl⟩ := hm
  obtain ⟨us, a, n, h1, h2, rfl, rfl, rfl, rfl⟩ := h
  exact pk_ok us a n h1 h2

/-! ### Value -/
theorem vl_a (us : List Int) (a r1 a1 r2 a2 : Int) : hrun Tryd.prog kPk 5 (pcs Tryd.prog 16) (oneS (dice us a) 67) (entF [.pointer (some ⟨0, 0, none⟩)] 13) [true] [[.int .i64 r1, encU us, .int .i64 a1], [.int .i64 r2, encU us, .int .i64 a2]] ⟨[(0, 0, false), (1, 1, false)], [], [2], 2, 1, false⟩ =
    some (HX.ret, [(0, HObj.row false [frz (List.map (fun n => Value.int IntKind.u8 n) us), Value.int IntKind.i64 a2] 67), (1, HObj.row false [Value.bool false, Value.int IntKind.i64 (IntKind.wrap IntKind.i64 (r2 - 2))] 24)], [(2, Value.pointer (some { block := 1, off := 0 }))], [relPk [frz (List.map (fun n => Value.int IntKind.u8 n) us), Value.int IntKind.i64 a1] [Value.int IntKind.i64 7] (Value.int IntKind.i64 r2) [frz (List.map (fun n => Value.int IntKind.u8 n) us), Value.int IntKind.i64 a2], (r1 == 0) = true, relPk [frz (List.map (fun n => Value.int IntKind.u8 n) us), Value.int IntKind.i64 a] [Value.int IntKind.i64 2] (Value.int IntKind.i64 r1) [frz (List.map (fun n => Value.int IntKind.u8 n) us), Value.int IntKind.i64 a1]]) := by kernel_rfl

theorem vl_b (us : List Int) (a r1 a1 r2 a2 : Int) : hrun Tryd.prog kPk 5 (pcs Tryd.prog 16) (oneS (dice us a) 67) (entF [.pointer (some ⟨0, 0, none⟩)] 13) [false] [[.int .i64 r1, encU us, .int .i64 a1], [.int .i64 r2, encU us, .int .i64 a2]] ⟨[(0, 0, false), (1, 1, false)], [], [2], 2, 1, false⟩ =
    some (HX.ret, [(0, HObj.row false [frz (List.map (fun n => Value.int IntKind.u8 n) us), Value.int IntKind.i64 a2] 67), (1, HObj.row false [Value.bool true, Value.int IntKind.i64 r2] 24)], [(2, Value.pointer (some { block := 1, off := 0 }))], [relPk [frz (List.map (fun n => Value.int IntKind.u8 n) us), Value.int IntKind.i64 a1] [Value.int IntKind.i64 12] (Value.int IntKind.i64 r2) [frz (List.map (fun n => Value.int IntKind.u8 n) us), Value.int IntKind.i64 a2], (r1 == 0) = false, relPk [frz (List.map (fun n => Value.int IntKind.u8 n) us), Value.int IntKind.i64 a] [Value.int IntKind.i64 2] (Value.int IntKind.i64 r1) [frz (List.map (fun n => Value.int IntKind.u8 n) us), Value.int IntKind.i64 a1]]) := by kernel_rfl

theorem vl_f (us : List Int) (a : Int) (b : Bool) (x : Int) : hfin Tryd.prog Tryd.f16 (mkSt [(0, .row false (dice us a) 67), (1, .row false [.bool b, .int .i64 x] 24)] 2 0) (mkF [(2, .pointer (some ⟨1, 0, none⟩))] 13) [] ⟨[(0, 0, false)], [], [], 1, 1, false⟩ =
    some (Value.agg { toList := [Value.bool b, Value.int IntKind.i64 x] }, [(0, HObj.row false [frz (List.map (fun n => Value.int IntKind.u8 n) us), Value.int IntKind.i64 a] 67)], []) := by kernel_rfl

def valF (us : List Int) (a : Nat) : V × Nat :=
  if (pickF us a 2).1 = 0 then ((false, IntKind.wrap .i64 ((pickF us (pickF us a 2).2 7).1 - 2)), (pickF us (pickF us a 2).2 7).2)
  else ((true, (pickF us (pickF us a 2).2 12).1), (pickF us (pickF us a 2).2 12).2)
theorem vl_ok (us : List Int) (a : Nat) (h : us.length ≤ 1000000) : FnEx Tryd.prog 16 [.pointer (some ⟨0, 0, none⟩)] (oneS (dice us a) 67) (fun u t => u = encV (valF us a).1 ∧ t = oneS (dice us (valF us a).2) 67) := by
  refine FnEx.enter (n0 := 1) (fn := Tryd.f16) (c := bodyOf Tryd.prog 16) Tryd.func16 (by kernel_rfl) rfl rfl ?_
  have p : ∀ (a : Nat) (n : Int), n ≠ 0 → relPk (dice us a) [.int .i64 n] (.int .i64 (pickF us a n).1) (dice us (pickF us a n).2) := fun a n hn => ⟨us, a, n, h, hn, rfl, rfl, rfl, rfl⟩
  unfold valF
  by_cases h0 : (pickF us a 2).1 = 0
  · rw [if_pos h0]
    refine Ex.stepN noGT kPk_ok 99 13 0 2 (vl_a us a (pickF us a 2).1 (pickF us a 2).2 (pickF us (pickF us a 2).2 7).1 (pickF us (pickF us a 2).2 7).2) rfl (.cons (p _ _ (by omega)) (.cons (by simpa using h0) (.cons (p _ _ (by omega)) .nil))) ?_
    exact FinQ.mk' (.inr rfl) (vl_f us _ false _) rfl .nil ⟨rfl, rfl⟩
  · rw [if_neg h0]
    refine Ex.stepN noGT kPk_ok 99 13 0 2 (vl_b us a (pickF us a 2).1 (pickF us a 2).2 (pickF us (pickF us a 2).2 12).1 (pickF us (pickF us a 2).2 12).2) rfl (.cons (p _ _ (by omega)) (.cons (by simpa using h0) (.cons (p _ _ (by omega)) .nil))) ?_
    exact FinQ.mk' (.inr rfl) (vl_f us _ true _) rfl .nil ⟨rfl, rfl⟩
def relVl : RRel := fun c rest v c' => ∃ (us : List Int) (a : Nat), us.length ≤ 1000000 ∧ c = dice us a ∧ rest = [] ∧ v = encV (valF us a).1 ∧ c' = dice us (valF us a).2
def kVl : HCall := rowK 67 [(15, relPk), (16, relVl)]
theorem kVl_ok : CallOK Tryd.prog kVl := rowK_ok fun g rel hm c rest v c' h => by
  simp only [List.mem_cons, Prod.mk.injEq, List.mem_nil_iff, or_false] at hm
  rcases hm with ⟨rfl, rfl⟩ | ⟨rfl, rfl⟩
  · obtain ⟨us, a, n, h1, h2, rfl, rfl, rfl, rfl⟩ := h
    exact pk_ok us a n h1 h2
  · obtain ⟨us, a, h1, rfl, rfl, rfl, rfl⟩ := h
    exact vl_ok us a h1

end Go.Proofs.MA
