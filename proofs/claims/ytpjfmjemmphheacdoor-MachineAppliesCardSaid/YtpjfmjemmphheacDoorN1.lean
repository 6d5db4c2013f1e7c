/- MachineApplies: comparisons by the reference. Conditions: none. -/
import Derived.Test.YtpjfmjemmphheacDoorM3
set_option linter.all false
set_option linter.unusedVariables false
set_option linter.unusedSimpArgs false
namespace Go.Proofs.MA
open Go Go.Hx Go.RowKit Go.Proofs
set_option maxRecDepth 100000

def soS (a b : O) : St := mkSt [(0, .row false [.int .i64 a.1, encFs a.2] 64), (1, .row false [.int .i64 b.1, encFs b.2] 64)] 2 0
def soF (l : List (Nat × Value)) : HF := mkF ([(2, .pointer (some ⟨0, 0, none⟩)), (3, .pointer (some ⟨1, 0, none⟩))] ++ l) 38

theorem so_a (a b : O) : hrun Tryd.prog noK 5 (pcs Tryd.prog 34) St0 (entF [encO a, encO b] 38) (List.replicate 7 false ++ [true, true]) [] ⟨[], [], [4], 0, 0, false⟩ =
    some (HX.ret, [], [(4, Value.bool false)], [true = true, (a.fst != b.fst) = true, ((a.fst != b.fst) == false) = false, ((a.fst != b.fst) == false) = false, ((a.fst != b.fst) == false) = false, ((a.fst != b.fst) == false) = false, ((a.fst != b.fst) == false) = false, ((a.fst != b.fst) == false) = false, ((a.fst != b.fst) == false) = false]) := by kernel_rfl

theorem so_b (a b : O) : hrun Tryd.prog noK 5 (pcs Tryd.prog 34) St0 (entF [encO a, encO b] 38) (List.replicate 7 true ++ [false, true]) [] ⟨[], [], [4], 0, 0, false⟩ =
    some (HX.ret, [], [(4, Value.bool false)], [((↑(List.length (List.map encV a.snd)) : Int) != (↑(List.length (List.map encV b.snd)) : Int)) = true, (a.fst != b.fst) = false, ((a.fst != b.fst) == false) = true, ((a.fst != b.fst) == false) = true, ((a.fst != b.fst) == false) = true, ((a.fst != b.fst) == false) = true, ((a.fst != b.fst) == false) = true, ((a.fst != b.fst) == false) = true, ((a.fst != b.fst) == false) = true]) := by kernel_rfl

theorem so_c (a b : O) : hrun Tryd.prog noK 5 ((pcs Tryd.prog 34).take 4) St0 (entF [encO a, encO b] 38) (List.replicate 7 true ++ [false, false]) [] ⟨[(0, 0, false), (1, 1, false)], [], [2, 3, 22, 23], 2, 0, false⟩ =
    some (HX.normal, [(0, HObj.row false [Value.int IntKind.i64 a.fst, frz (List.map encV a.snd)] 64), (1, HObj.row false [Value.int IntKind.i64 b.fst, frz (List.map encV b.snd)] 64)], [(2, Value.pointer (some { block := 0, off := 0 })), (3, Value.pointer (some { block := 1, off := 0 })), (22, Value.int IntKind.i64 (↑(List.length (List.map encV a.snd)) : Int)), (23, Value.int IntKind.i64 0)], [((↑(List.length (List.map encV a.snd)) : Int) != (↑(List.length (List.map encV b.snd)) : Int)) = false, (a.fst != b.fst) = false, ((a.fst != b.fst) == false) = true, ((a.fst != b.fst) == false) = true, ((a.fst != b.fst) == false) = true, ((a.fst != b.fst) == false) = true, ((a.fst != b.fst) == false) = true, ((a.fst != b.fst) == false) = true, ((a.fst != b.fst) == false) = true]) := by kernel_rfl

theorem so_r (a b : O) (k n : Int) (x y : V) : hrun Tryd.prog noK 5 (flatC (loopIn (nth (pcs Tryd.prog 34) 4))) (soS a b) (soF [(22, .int .i64 n), (23, .int .i64 k)]) [true, false] [[encV x], [encV y]] ⟨[(0, 0, false), (1, 1, false)], [], [2, 3, 22, 23], 2, 0, false⟩ =
    some (HX.normal, [(0, HObj.row false [Value.int IntKind.i64 a.fst, frz (List.map encV a.snd)] 64), (1, HObj.row false [Value.int IntKind.i64 b.fst, frz (List.map encV b.snd)] 64)], [(2, Value.pointer (some { block := 0, off := 0 })), (3, Value.pointer (some { block := 1, off := 0 })), (22, Value.int IntKind.i64 n), (23, Value.int IntKind.i64 (IntKind.wrap IntKind.i64 (k + 1)))], [(!List.all ([(Value.bool x.fst, Value.bool y.fst)] ++ ([(Value.int IntKind.i64 x.snd, Value.int IntKind.i64 y.snd)] ++ [])) leafEq) = false, 0 ≤ k ∧ (List.map encV b.snd)[Int.toNat k]? = some (Value.agg { toList := [Value.bool y.fst, Value.int IntKind.i64 y.snd] }), 0 ≤ k ∧ (List.map encV a.snd)[Int.toNat k]? = some (Value.agg { toList := [Value.bool x.fst, Value.int IntKind.i64 x.snd] }), decide (k < n) = true]) := by kernel_rfl

theorem so_h (a b : O) (k n : Int) (x y : V) : hrun Tryd.prog noK 5 (flatC (loopIn (nth (pcs Tryd.prog 34) 4))) (soS a b) (soF [(22, .int .i64 n), (23, .int .i64 k)]) [true, true] [[encV x], [encV y]] ⟨[], [], [4], 0, 0, false⟩ =
    some (HX.ret, [], [(4, Value.bool false)], [(!List.all ([(Value.bool x.fst, Value.bool y.fst)] ++ ([(Value.int IntKind.i64 x.snd, Value.int IntKind.i64 y.snd)] ++ [])) leafEq) = true, 0 ≤ k ∧ (List.map encV b.snd)[Int.toNat k]? = some (Value.agg { toList := [Value.bool y.fst, Value.int IntKind.i64 y.snd] }), 0 ≤ k ∧ (List.map encV a.snd)[Int.toNat k]? = some (Value.agg { toList := [Value.bool x.fst, Value.int IntKind.i64 x.snd] }), decide (k < n) = true]) := by kernel_rfl

theorem so_x (a b : O) (k n : Int) : hrun Tryd.prog noK 5 (flatC (loopIn (nth (pcs Tryd.prog 34) 4))) (soS a b) (soF [(22, .int .i64 n), (23, .int .i64 k)]) [false] [] ⟨[], [], [], 0, 0, false⟩ =
    some (HX.exit 0, [], [], [decide (k < n) = false]) := by kernel_rfl

theorem so_e (u : Unit) : hrun Tryd.prog noK 5 ((pcs Tryd.prog 34).drop 5) (mkSt [] 0 0) (mkF [] 38) [] [] ⟨[], [], [4], 0, 0, false⟩ =
    some (HX.ret, [], [(4, Value.bool true)], []) := by kernel_rfl

theorem so_f (b : Bool) : hfin Tryd.prog Tryd.f34 (mkSt [] 0 0) (mkF [(4, .bool b)] 38) [] ⟨[], [], [], 0, 0, false⟩ =
    some (Value.bool b, [], []) := by kernel_rfl


def sameO (a b : O) : Bool := decide (a.1 = b.1) && decide (a.2 = b.2)
theorem so_l4 : (pcs Tryd.prog 34).drop 4 = .block 0 (.loop (loopIn (nth (pcs Tryd.prog 34) 4))) :: (pcs Tryd.prog 34).drop 5 := by kernel_rfl
theorem leafV (x y : V) : (!List.all ([(Value.bool x.fst, Value.bool y.fst)] ++ ([(Value.int IntKind.i64 x.snd, Value.int IntKind.i64 y.snd)] ++ [])) leafEq) = !decide (x = y) := by
  obtain ⟨a, b⟩ := x
  obtain ⟨c, d⟩ := y
  simp [leafEq, Prod.ext_iff]
  first | rfl | skip

theorem so_ok (a b : O) (ha : a.2.length ≤ 9000000000000000000) : FnEx Tryd.prog 34 [encO a, encO b] St0 (fun u _ => u = .bool (sameO a b)) := by
  refine FnEx.enter (n0 := 0) (fn := Tryd.f34) (c := bodyOf Tryd.prog 34) Tryd.func34 (by kernel_rfl) rfl rfl ?_
  show Ex _ _ (pcs Tryd.prog 34) _ _ _
  by_cases h1 : a.1 = b.1
  · have e1 : (a.1 != b.1) = false := by simp [h1]
    by_cases h2 : a.2.length = b.2.length
    · have e2 : ((((List.map encV a.2).length : Nat) : Int) != (((List.map encV b.2).length : Nat) : Int)) = false := by simp [h2]
      refine Ex.stepN noGT noK_ok 4 38 0 2 (so_c a b) rfl ?_ ?_
      · refine .cons e2 (.cons e1 ?_)
        rw [e1]
        exact .cons rfl (.cons rfl (.cons rfl (.cons rfl (.cons rfl (.cons rfl (.cons rfl .nil))))))
      show Ex _ _ ((pcs Tryd.prog 34).drop 4) _ _ _
      rw [so_l4, show (List.map encV a.2).length = a.2.length from List.length_map ..]
      refine Ex.loop (fun m s f => ∃ p q r, a.2 = p ++ q ∧ b.2 = p ++ r ∧ q.length = m ∧ s = soS a b ∧ f = soF [(22, .int .i64 a.2.length), (23, .int .i64 p.length)]) ?_ ⟨[], a.2, b.2, rfl, rfl, rfl, rfl, rfl⟩
      rintro m s f ⟨p, q, r, hp, hr, hm, rfl, rfl⟩
      have hqr : q.length = r.length := by rw [hp, hr] at h2; simpa using h2
      cases q with
      | nil =>
        have : r = [] := List.eq_nil_of_length_eq_zero (by rw [← hqr]; rfl)
        subst this
        refine Ex.stepN noGT noK_ok 99 38 0 0 (so_x a b p.length a.2.length) rfl (.cons (by rw [hp]; simp) .nil) ?_
        refine goOn.out ?_
        refine Ex.stepN noGT noK_ok 99 38 0 0 (so_e ()) rfl .nil ?_
        exact FinQ.mk' (.inr rfl) (so_f true) rfl .nil (by rw [show sameO a b = true by simp [sameO, h1, hp, hr]])
      | cons x q =>
        cases r with
        | nil => simp at hqr
        | cons y r =>
          have hlt : p.length < a.2.length := by rw [hp]; simp
          have hka : a.2[p.length]? = some x := by rw [hp]; exact at_split p x q
          have hkb : b.2[p.length]? = some y := by rw [hr]; exact at_split p y r
          have hA : 0 ≤ ((p.length : Nat) : Int) ∧ (List.map encV a.2)[((p.length : Nat) : Int).toNat]? = some (encV x) := ⟨by omega, map_at hka⟩
          have hB : 0 ≤ ((p.length : Nat) : Int) ∧ (List.map encV b.2)[((p.length : Nat) : Int).toNat]? = some (encV y) := ⟨by omega, map_at hkb⟩
          have hd : decide (((p.length : Nat) : Int) < ((a.2.length : Nat) : Int)) = true := by simp; omega
          by_cases hxy : x = y
          · refine Ex.stepN noGT noK_ok 99 38 0 2 (so_r a b p.length a.2.length x y) rfl (.cons (by rw [leafV]; simp [hxy]) (.cons hB (.cons hA (.cons hd .nil)))) ?_
            have hw : IntKind.wrap IntKind.i64 ((p.length : Int) + 1) = ((p ++ [x]).length : Int) := by
              rw [IntWalk.i64_in _ (by omega)]; simp
            rw [hw]
            exact Ex.nil ⟨m - 1, by simp at hm; omega, p ++ [x], q, r, by simp [hp], by simp [hr, hxy], by simp at hm; omega, rfl, rfl⟩
          · refine Ex.stepN noGT noK_ok 99 38 0 0 (so_h a b p.length a.2.length x y) rfl (.cons (by rw [leafV]; simp [hxy]) (.cons hB (.cons hA (.cons hd .nil)))) ?_
            exact FinQ.mk' (.inr rfl) (so_f false) rfl .nil (by rw [show sameO a b = false by simp [sameO, hp, hr, hxy]])
    · have e2 : ((((List.map encV a.2).length : Nat) : Int) != (((List.map encV b.2).length : Nat) : Int)) = true := by
        simp; omega
      refine Ex.stepN noGT noK_ok 99 38 0 0 (so_b a b) rfl ?_ ?_
      · refine .cons e2 (.cons e1 ?_)
        rw [e1]
        exact .cons rfl (.cons rfl (.cons rfl (.cons rfl (.cons rfl (.cons rfl (.cons rfl .nil))))))
      exact FinQ.mk' (.inr rfl) (so_f false) rfl .nil (by rw [show sameO a b = false by simp only [sameO, Bool.and_eq_false_iff, decide_eq_false_iff_not]; exact .inr fun h => h2 (by rw [h])])
  · have e1 : (a.1 != b.1) = true := by simp [h1]
    refine Ex.stepN noGT noK_ok 99 38 0 0 (so_a a b) rfl ?_ ?_
    · rw [e1]
      exact .cons rfl (.cons rfl (.cons rfl (.cons rfl (.cons rfl (.cons rfl (.cons rfl (.cons rfl (.cons rfl .nil))))))))
    exact FinQ.mk' (.inr rfl) (so_f false) rfl .nil (by rw [show sameO a b = false by simp [sameO, h1]])
def relSo : Rel := fun args v => ∃ a b : O, a.2.length ≤ 9000000000000000000 ∧ args = [encO a, encO b] ∧ v = .bool (sameO a b)
theorem relSo_ok : ∀ args v, relSo args v → FnEx Tryd.prog 34 args St0 (fun u _ => u = v) := by
  rintro args v ⟨a, b, h, rfl, rfl⟩
  exact so_ok a b h

end Go.Proofs.MA

namespace Go.Proofs.MA
open Go Go.Hx Go.RowKit Go.Proofs
set_option maxRecDepth 100000

def kSo : HCall := specK [(34, relSo)]
theorem kSo_ok : CallOK Tryd.prog kSo := specK_ok fun g rel hm args v h _ _ => by
  simp only [List.mem_cons, Prod.mk.injEq, List.mem_nil_iff, or_false] at hm
  obtain ⟨rfl, rfl⟩ := hm
  exact relSo_ok args v h
def sjF (a b : List O) (l : List (Nat × Value)) : HF := mkF ([(0, encOs a), (1, encOs b)] ++ l) 27

theorem sj_b (a b : List O) : hrun Tryd.prog kSo 5 (pcs Tryd.prog 18) St0 (entF [encOs a, encOs b] 27) [true] [] ⟨[], [], [4], 0, 0, false⟩ =
    some (HX.ret, [], [(4, Value.bool false)], [((↑(List.length (List.map encO a)) : Int) != (↑(List.length (List.map encO b)) : Int)) = true]) := by kernel_rfl

theorem sj_c (a b : List O) : hrun Tryd.prog kSo 5 ((pcs Tryd.prog 18).take 4) St0 (entF [encOs a, encOs b] 27) [false] [] ⟨[], [], [0, 1, 12, 13], 0, 0, false⟩ =
    some (HX.normal, [], [(0, frz (List.map encO a)), (1, frz (List.map encO b)), (12, Value.int IntKind.i64 (↑(List.length (List.map encO a)) : Int)), (13, Value.int IntKind.i64 0)], [((↑(List.length (List.map encO a)) : Int) != (↑(List.length (List.map encO b)) : Int)) = false]) := by kernel_rfl

theorem sj_r (a b : List O) (k n : Int) (x y : O) : hrun Tryd.prog kSo 5 (flatC (loopIn (nth (pcs Tryd.prog 18) 4))) St0 (sjF a b [(12, .int .i64 n), (13, .int .i64 k)]) [true, false] [[encO x], [encO y], [.bool true]] ⟨[], [], [0, 1, 12, 13], 0, 0, false⟩ =
    some (HX.normal, [], [(0, frz (List.map encO a)), (1, frz (List.map encO b)), (12, Value.int IntKind.i64 n), (13, Value.int IntKind.i64 (IntKind.wrap IntKind.i64 (k + 1)))], [(!true) = false, relSo [Value.agg { toList := [Value.int IntKind.i64 x.fst, frz (List.map encV x.snd)] }, Value.agg { toList := [Value.int IntKind.i64 y.fst, frz (List.map encV y.snd)] }] (Value.bool true), 0 ≤ k ∧ (List.map encO b)[Int.toNat k]? = some (Value.agg { toList := [Value.int IntKind.i64 y.fst, frz (List.map encV y.snd)] }), 0 ≤ k ∧ (List.map encO a)[Int.toNat k]? = some (Value.agg { toList := [Value.int IntKind.i64 x.fst, frz (List.map encV x.snd)] }), decide (k < n) = true]) := by kernel_rfl

theorem sj_h (a b : List O) (k n : Int) (x y : O) : hrun Tryd.prog kSo 5 (flatC (loopIn (nth (pcs Tryd.prog 18) 4))) St0 (sjF a b [(12, .int .i64 n), (13, .int .i64 k)]) [true, true] [[encO x], [encO y], [.bool false]] ⟨[], [], [4], 0, 0, false⟩ =
    some (HX.ret, [], [(4, Value.bool false)], [(!false) = true, relSo [Value.agg { toList := [Value.int IntKind.i64 x.fst, frz (List.map encV x.snd)] }, Value.agg { toList := [Value.int IntKind.i64 y.fst, frz (List.map encV y.snd)] }] (Value.bool false), 0 ≤ k ∧ (List.map encO b)[Int.toNat k]? = some (Value.agg { toList := [Value.int IntKind.i64 y.fst, frz (List.map encV y.snd)] }), 0 ≤ k ∧ (List.map encO a)[Int.toNat k]? = some (Value.agg { toList := [Value.int IntKind.i64 x.fst, frz (List.map encV x.snd)] }), decide (k < n) = true]) := by kernel_rfl

theorem sj_x (a b : List O) (k n : Int) : hrun Tryd.prog kSo 5 (flatC (loopIn (nth (pcs Tryd.prog 18) 4))) St0 (sjF a b [(12, .int .i64 n), (13, .int .i64 k)]) [false] [] ⟨[], [], [], 0, 0, false⟩ =
    some (HX.exit 0, [], [], [decide (k < n) = false]) := by kernel_rfl

theorem sj_e (u : Unit) : hrun Tryd.prog kSo 5 ((pcs Tryd.prog 18).drop 5) (mkSt [] 0 0) (mkF [] 27) [] [] ⟨[], [], [4], 0, 0, false⟩ =
    some (HX.ret, [], [(4, Value.bool true)], []) := by kernel_rfl

theorem sj_f (b : Bool) : hfin Tryd.prog Tryd.f18 (mkSt [] 0 0) (mkF [(4, .bool b)] 27) [] ⟨[], [], [], 0, 0, false⟩ =
    some (Value.bool b, [], []) := by kernel_rfl

def sameOs : List O → List O → Bool
  | [], [] => true
  | a :: l, b :: m => sameO a b && sameOs l m
  | _, _ => false
theorem sameO_eq {a b : O} : sameO a b = true ↔ a = b := by
  simp [sameO, Prod.ext_iff]
theorem sj_l4 : (pcs Tryd.prog 18).drop 4 = .block 0 (.loop (loopIn (nth (pcs Tryd.prog 18) 4))) :: (pcs Tryd.prog 18).drop 5 := by kernel_rfl

theorem sj_ok (a b : List O) (ha : SmO a) : FnEx Tryd.prog 18 [encOs a, encOs b] St0 (fun u _ => u = .bool (decide (a = b))) := by
  have hl := ha.1
  refine FnEx.enter (n0 := 0) (fn := Tryd.f18) (c := bodyOf Tryd.prog 18) Tryd.func18 (by kernel_rfl) rfl rfl ?_
  show Ex _ _ (pcs Tryd.prog 18) _ _ _
  by_cases h2 : a.length = b.length
  · have e2 : ((((List.map encO a).length : Nat) : Int) != (((List.map encO b).length : Nat) : Int)) = false := by simp [h2]
    refine Ex.stepN noGT kSo_ok 4 27 0 0 (sj_c a b) rfl (.cons e2 .nil) ?_
    show Ex _ _ ((pcs Tryd.prog 18).drop 4) _ _ _
    rw [sj_l4, show (List.map encO a).length = a.length from List.length_map ..]
    refine Ex.loop (fun m s f => ∃ p q r, a = p ++ q ∧ b = p ++ r ∧ q.length = m ∧ s = St0 ∧ f = sjF a b [(12, .int .i64 a.length), (13, .int .i64 p.length)]) ?_ ⟨[], a, b, rfl, rfl, rfl, rfl, rfl⟩
    rintro m s f ⟨p, q, r, hp, hr, hm, rfl, rfl⟩
    have hqr : q.length = r.length := by rw [hp, hr] at h2; simpa using h2
    cases q with
    | nil =>
      have : r = [] := List.eq_nil_of_length_eq_zero (by rw [← hqr]; rfl)
      subst this
      refine Ex.stepN noGT kSo_ok 99 27 0 0 (sj_x a b p.length a.length) rfl (.cons (by rw [hp]; simp) .nil) ?_
      refine goOn.out ?_
      refine Ex.stepN noGT kSo_ok 99 27 0 0 (sj_e ()) rfl .nil ?_
      exact FinQ.mk' (.inr rfl) (sj_f true) rfl .nil (by rw [show decide (a = b) = true by simp [hp, hr]])
    | cons x q =>
      cases r with
      | nil => simp at hqr
      | cons y r =>
        have hlt : p.length < a.length := by rw [hp]; simp
        have hka : a[p.length]? = some x := by rw [hp]; exact at_split p x q
        have hkb : b[p.length]? = some y := by rw [hr]; exact at_split p y r
        have hA : 0 ≤ ((p.length : Nat) : Int) ∧ (List.map encO a)[((p.length : Nat) : Int).toNat]? = some (encO x) := ⟨by omega, map_at hka⟩
        have hB : 0 ≤ ((p.length : Nat) : Int) ∧ (List.map encO b)[((p.length : Nat) : Int).toNat]? = some (encO y) := ⟨by omega, map_at hkb⟩
        have hd : decide (((p.length : Nat) : Int) < ((a.length : Nat) : Int)) = true := by simp; omega
        have hs : SmV x.2 := ha.2 x (by rw [hp]; simp)
        have hS : relSo [encO x, encO y] (.bool (sameO x y)) := ⟨x, y, by unfold SmV at hs; omega, rfl, rfl⟩
        by_cases hxy : x = y
        · have he : sameO x y = true := sameO_eq.2 hxy
          rw [he] at hS
          refine Ex.stepN noGT kSo_ok 99 27 0 0 (sj_r a b p.length a.length x y) rfl (by ((repeat' refine allP.cons ?_ ?_) <;> first | exact allP.nil | assumption | rfl | (exact ⟨by omega, by assumption⟩) | (simp; done) | (simp; omega) | skip)) ?_
          have hw : IntKind.wrap IntKind.i64 ((p.length : Int) + 1) = ((p ++ [x]).length : Int) := by
            rw [IntWalk.i64_in _ (by omega)]; simp
          rw [hw]
          exact Ex.nil ⟨m - 1, by simp at hm; omega, p ++ [x], q, r, by simp [hp], by simp [hr, hxy], by simp at hm; omega, rfl, rfl⟩
        · have he : sameO x y = false := by
            cases hh : sameO x y with
            | false => rfl
            | true => exact absurd (sameO_eq.1 hh) hxy
          rw [he] at hS
          refine Ex.stepN noGT kSo_ok 99 27 0 0 (sj_h a b p.length a.length x y) rfl (by ((repeat' refine allP.cons ?_ ?_) <;> first | exact allP.nil | assumption | rfl | (exact ⟨by omega, by assumption⟩) | (simp; done) | (simp; omega) | skip)) ?_
          exact FinQ.mk' (.inr rfl) (sj_f false) rfl .nil (by rw [show decide (a = b) = false by simp [hp, hr, hxy]])
  · have e2 : ((((List.map encO a).length : Nat) : Int) != (((List.map encO b).length : Nat) : Int)) = true := by
      simp; omega
    refine Ex.stepN noGT kSo_ok 99 27 0 0 (sj_b a b) rfl (.cons e2 .nil) ?_
    exact FinQ.mk' (.inr rfl) (sj_f false) rfl .nil (by rw [show decide (a = b) = false by simp only [decide_eq_false_iff_not]; exact fun h => h2 (by rw [h])])

end Go.Proofs.MA

namespace Go.Proofs.MA
open Go Go.Hx Go.RowKit Go.Proofs
set_option maxRecDepth 100000

def relSj : Rel := fun args v => ∃ a b : List O, SmO a ∧ args = [encOs a, encOs b] ∧ v = .bool (decide (a = b))
def kSj : HCall := specK [(18, relSj)]
theorem kSj_ok : CallOK Tryd.prog kSj := specK_ok fun g rel hm args v h _ _ => by
  simp only [List.mem_cons, Prod.mk.injEq, List.mem_nil_iff, or_false] at hm
  obtain ⟨rfl, rfl⟩ := hm
  obtain ⟨a, b, h, rfl, rfl⟩ := h
  exact sj_ok a b h

theorem sm_a (a b : List O) (c : Bool) : hrun Tryd.prog kSj 5 (pcs Tryd.prog 8) St0 (entF [encH a, encH b] 10) [] [[.bool c]] ⟨[], [], [4], 0, 0, false⟩ =
    some (HX.ret, [], [(4, Value.bool c)], [relSj [frz (List.map encO a), frz (List.map encO b)] (Value.bool c)]) := by kernel_rfl

theorem sm_f (b : Bool) : hfin Tryd.prog Tryd.f8 (mkSt [] 0 0) (mkF [(4, .bool b)] 10) [] ⟨[], [], [], 0, 0, false⟩ =
    some (Value.bool b, [], []) := by kernel_rfl

theorem sm_ok (a b : List O) (ha : SmO a) : FnEx Tryd.prog 8 [encH a, encH b] St0 (fun u _ => u = .bool (decide (a = b))) := by
  refine FnEx.enter (n0 := 0) (fn := Tryd.f8) (c := bodyOf Tryd.prog 8) Tryd.func8 (by kernel_rfl) rfl rfl ?_
  have hS : relSj [encOs a, encOs b] (.bool (decide (a = b))) := ⟨a, b, ha, rfl, rfl⟩
  refine Ex.stepN noGT kSj_ok 99 10 0 0 (sm_a a b (decide (a = b))) rfl (by ((repeat' refine allP.cons ?_ ?_) <;> first | exact allP.nil | assumption | rfl | (exact ⟨by omega, by assumption⟩) | (simp; done) | (simp; omega) | skip)) ?_
  exact FinQ.mk' (.inr rfl) (sm_f (decide (a = b))) rfl .nil rfl
def relSm : Rel := fun args v => ∃ a b : List O, SmO a ∧ args = [encH a, encH b] ∧ v = .bool (decide (a = b))
theorem relSm_ok : ∀ args v, relSm args v → FnEx Tryd.prog 8 args St0 (fun u _ => u = v) := by
  rintro args v ⟨a, b, h, rfl, rfl⟩
  exact sm_ok a b h

end Go.Proofs.MA

namespace Go.Proofs.MA
open Go Go.Hx Go.RowKit Go.Proofs
set_option maxRecDepth 100000

abbrev A3 := Bool × Int × Int
def encA (a : A3) : Value := .agg ⟨[.bool a.1, .int .i64 a.2.1, .int .i64 a.2.2]⟩
def encAs (l : List A3) : Value := frz (l.map encA)
def saF (a b : List A3) (l : List (Nat × Value)) : HF := mkF ([(0, encAs a), (1, encAs b)] ++ l) 26

theorem sa_b (a b : List A3) : hrun Tryd.prog noK 5 (pcs Tryd.prog 26) St0 (entF [encAs a, encAs b] 26) [true] [] ⟨[], [], [4], 0, 0, false⟩ =
    some (HX.ret, [], [(4, Value.bool false)], [((↑(List.length (List.map encA a)) : Int) != (↑(List.length (List.map encA b)) : Int)) = true]) := by kernel_rfl

theorem sa_c (a b : List A3) : hrun Tryd.prog noK 5 ((pcs Tryd.prog 26).take 4) St0 (entF [encAs a, encAs b] 26) [false] [] ⟨[], [], [0, 1, 12, 13], 0, 0, false⟩ =
    some (HX.normal, [], [(0, frz (List.map encA a)), (1, frz (List.map encA b)), (12, Value.int IntKind.i64 (↑(List.length (List.map encA a)) : Int)), (13, Value.int IntKind.i64 0)], [((↑(List.length (List.map encA a)) : Int) != (↑(List.length (List.map encA b)) : Int)) = false]) := by kernel_rfl

theorem sa_r (a b : List A3) (k n : Int) (x y : A3) : hrun Tryd.prog noK 5 (flatC (loopIn (nth (pcs Tryd.prog 26) 4))) St0 (saF a b [(12, .int .i64 n), (13, .int .i64 k)]) [true, false] [[encA x], [encA y]] ⟨[], [], [0, 1, 12, 13], 0, 0, false⟩ =
    some (HX.normal, [], [(0, frz (List.map encA a)), (1, frz (List.map encA b)), (12, Value.int IntKind.i64 n), (13, Value.int IntKind.i64 (IntKind.wrap IntKind.i64 (k + 1)))], [(!List.all ([(Value.bool x.fst, Value.bool y.fst)] ++ ([(Value.int IntKind.i64 x.snd.fst, Value.int IntKind.i64 y.snd.fst)] ++ ([(Value.int IntKind.i64 x.snd.snd, Value.int IntKind.i64 y.snd.snd)] ++ []))) leafEq) = false, 0 ≤ k ∧ (List.map encA b)[Int.toNat k]? = some (Value.agg { toList := [Value.bool y.fst, Value.int IntKind.i64 y.snd.fst, Value.int IntKind.i64 y.snd.snd] }), 0 ≤ k ∧ (List.map encA a)[Int.toNat k]? = some (Value.agg { toList := [Value.bool x.fst, Value.int IntKind.i64 x.snd.fst, Value.int IntKind.i64 x.snd.snd] }), decide (k < n) = true]) := by kernel_rfl

theorem sa_h (a b : List A3) (k n : Int) (x y : A3) : hrun Tryd.prog noK 5 (flatC (loopIn (nth (pcs Tryd.prog 26) 4))) St0 (saF a b [(12, .int .i64 n), (13, .int .i64 k)]) [true, true] [[encA x], [encA y]] ⟨[], [], [4], 0, 0, false⟩ =
    some (HX.ret, [], [(4, Value.bool false)], [(!List.all ([(Value.bool x.fst, Value.bool y.fst)] ++ ([(Value.int IntKind.i64 x.snd.fst, Value.int IntKind.i64 y.snd.fst)] ++ ([(Value.int IntKind.i64 x.snd.snd, Value.int IntKind.i64 y.snd.snd)] ++ []))) leafEq) = true, 0 ≤ k ∧ (List.map encA b)[Int.toNat k]? = some (Value.agg { toList := [Value.bool y.fst, Value.int IntKind.i64 y.snd.fst, Value.int IntKind.i64 y.snd.snd] }), 0 ≤ k ∧ (List.map encA a)[Int.toNat k]? = some (Value.agg { toList := [Value.bool x.fst, Value.int IntKind.i64 x.snd.fst, Value.int IntKind.i64 x.snd.snd] }), decide (k < n) = true]) := by kernel_rfl

theorem sa_x (a b : List A3) (k n : Int) : hrun Tryd.prog noK 5 (flatC (loopIn (nth (pcs Tryd.prog 26) 4))) St0 (saF a b [(12, .int .i64 n), (13, .int .i64 k)]) [false] [] ⟨[], [], [], 0, 0, false⟩ =
    some (HX.exit 0, [], [], [decide (k < n) = false]) := by kernel_rfl

theorem sa_e (u : Unit) : hrun Tryd.prog noK 5 ((pcs Tryd.prog 26).drop 5) (mkSt [] 0 0) (mkF [] 26) [] [] ⟨[], [], [4], 0, 0, false⟩ =
    some (HX.ret, [], [(4, Value.bool true)], []) := by kernel_rfl

theorem sa_f (b : Bool) : hfin Tryd.prog Tryd.f26 (mkSt [] 0 0) (mkF [(4, .bool b)] 26) [] ⟨[], [], [], 0, 0, false⟩ =
    some (Value.bool b, [], []) := by kernel_rfl

theorem leafA (x y : A3) : (!List.all ([(Value.bool x.fst, Value.bool y.fst)] ++ ([(Value.int IntKind.i64 x.snd.fst, Value.int IntKind.i64 y.snd.fst)] ++ ([(Value.int IntKind.i64 x.snd.snd, Value.int IntKind.i64 y.snd.snd)] ++ []))) leafEq) = !decide (x = y) := by
  obtain ⟨a, b, c⟩ := x
  obtain ⟨d, e, f⟩ := y
  simp [leafEq, Prod.ext_iff]
  first | rfl | skip
theorem sa_l4 : (pcs Tryd.prog 26).drop 4 = .block 0 (.loop (loopIn (nth (pcs Tryd.prog 26) 4))) :: (pcs Tryd.prog 26).drop 5 := by kernel_rfl

theorem sa_ok (a b : List A3) (hl : a.length ≤ 9000000000000000000) : FnEx Tryd.prog 26 [encAs a, encAs b] St0 (fun u _ => u = .bool (decide (a = b))) := by
  refine FnEx.enter (n0 := 0) (fn := Tryd.f26) (c := bodyOf Tryd.prog 26) Tryd.func26 (by kernel_rfl) rfl rfl ?_
  show Ex _ _ (pcs Tryd.prog 26) _ _ _
  by_cases h2 : a.length = b.length
  · have e2 : ((((List.map encA a).length : Nat) : Int) != (((List.map encA b).length : Nat) : Int)) = false := by simp [h2]
    refine Ex.stepN noGT noK_ok 4 26 0 0 (sa_c a b) rfl (.cons e2 .nil) ?_
    show Ex _ _ ((pcs Tryd.prog 26).drop 4) _ _ _
    rw [sa_l4, show (List.map encA a).length = a.length from List.length_map ..]
    refine Ex.loop (fun m s f => ∃ p q r, a = p ++ q ∧ b = p ++ r ∧ q.length = m ∧ s = St0 ∧ f = saF a b [(12, .int .i64 a.length), (13, .int .i64 p.length)]) ?_ ⟨[], a, b, rfl, rfl, rfl, rfl, rfl⟩
    rintro m s f ⟨p, q, r, hp, hr, hm, rfl, rfl⟩
    have hqr : q.length = r.length := by rw [hp, hr] at h2; simpa using h2
    cases q with
    | nil =>
      have : r = [] := List.eq_nil_of_length_eq_zero (by rw [← hqr]; rfl)
      subst this
      refine Ex.stepN noGT noK_ok 99 26 0 0 (sa_x a b p.length a.length) rfl (.cons (by rw [hp]; simp) .nil) ?_
      refine goOn.out ?_
      refine Ex.stepN noGT noK_ok 99 26 0 0 (sa_e ()) rfl .nil ?_
      exact FinQ.mk' (.inr rfl) (sa_f true) rfl .nil (by rw [show decide (a = b) = true by simp [hp, hr]])
    | cons x q =>
      cases r with
      | nil => simp at hqr
      | cons y r =>
        have hlt : p.length < a.length := by rw [hp]; simp
        have hka : a[p.length]? = some x := by rw [hp]; exact at_split p x q
        have hkb : b[p.length]? = some y := by rw [hr]; exact at_split p y r
        have hA : 0 ≤ ((p.length : Nat) : Int) ∧ (List.map encA a)[((p.length : Nat) : Int).toNat]? = some (encA x) := ⟨by omega, map_at hka⟩
        have hB : 0 ≤ ((p.length : Nat) : Int) ∧ (List.map encA b)[((p.length : Nat) : Int).toNat]? = some (encA y) := ⟨by omega, map_at hkb⟩
        have hd : decide (((p.length : Nat) : Int) < ((a.length : Nat) : Int)) = true := by simp; omega
        by_cases hxy : x = y
        · have he : (!List.all ([(Value.bool x.fst, Value.bool y.fst)] ++ ([(Value.int IntKind.i64 x.snd.fst, Value.int IntKind.i64 y.snd.fst)] ++ ([(Value.int IntKind.i64 x.snd.snd, Value.int IntKind.i64 y.snd.snd)] ++ []))) leafEq) = false := by rw [leafA]; simp [hxy]
          refine Ex.stepN noGT noK_ok 99 26 0 0 (sa_r a b p.length a.length x y) rfl (by ((repeat' refine allP.cons ?_ ?_) <;> first | exact allP.nil | assumption | rfl | (exact ⟨by omega, by assumption⟩) | (simp; done) | (simp; omega) | skip)) ?_
          have hw : IntKind.wrap IntKind.i64 ((p.length : Int) + 1) = ((p ++ [x]).length : Int) := by
            rw [IntWalk.i64_in _ (by omega)]; simp
          rw [hw]
          exact Ex.nil ⟨m - 1, by simp at hm; omega, p ++ [x], q, r, by simp [hp], by simp [hr, hxy], by simp at hm; omega, rfl, rfl⟩
        · have he : (!List.all ([(Value.bool x.fst, Value.bool y.fst)] ++ ([(Value.int IntKind.i64 x.snd.fst, Value.int IntKind.i64 y.snd.fst)] ++ ([(Value.int IntKind.i64 x.snd.snd, Value.int IntKind.i64 y.snd.snd)] ++ []))) leafEq) = true := by rw [leafA]; simp [hxy]
          refine Ex.stepN noGT noK_ok 99 26 0 0 (sa_h a b p.length a.length x y) rfl (by ((repeat' refine allP.cons ?_ ?_) <;> first | exact allP.nil | assumption | rfl | (exact ⟨by omega, by assumption⟩) | (simp; done) | (simp; omega) | skip)) ?_
          exact FinQ.mk' (.inr rfl) (sa_f false) rfl .nil (by rw [show decide (a = b) = false by simp [hp, hr, hxy]])
  · have e2 : ((((List.map encA a).length : Nat) : Int) != (((List.map encA b).length : Nat) : Int)) = true := by
      simp; omega
    refine Ex.stepN noGT noK_ok 99 26 0 0 (sa_b a b) rfl (.cons e2 .nil) ?_
    exact FinQ.mk' (.inr rfl) (sa_f false) rfl .nil (by rw [show decide (a = b) = false by simp only [decide_eq_false_iff_not]; exact fun h => h2 (by rw [h])])

end Go.Proofs.MA

namespace Go.Proofs.MA
open Go Go.Hx Go.RowKit Go.Proofs
set_option maxRecDepth 100000

abbrev Ou := List A3 × Bool × V × List O
def encOu (o : Ou) : Value := .agg ⟨[encAs o.1, .bool o.2.1, .bool o.2.2.1.1, .int .i64 o.2.2.1.2, encOs o.2.2.2]⟩
def relSa : Rel := fun args v => ∃ a b : List A3, a.length ≤ 9000000000000000000 ∧ args = [encAs a, encAs b] ∧ v = .bool (decide (a = b))
def kSu : HCall := specK [(26, relSa), (8, relSm)]
theorem kSu_ok : CallOK Tryd.prog kSu := specK_ok fun g rel hm args v h _ _ => by
  simp only [List.mem_cons, Prod.mk.injEq, List.mem_nil_iff, or_false] at hm
  rcases hm with ⟨rfl, rfl⟩ | ⟨rfl, rfl⟩
  · obtain ⟨a, b, h, rfl, rfl⟩ := h
    exact sa_ok a b h
  · exact relSm_ok args v h

theorem su_1 (a b : Ou) : hrun Tryd.prog kSu 5 (pcs Tryd.prog 12) St0 (entF [encOu a, encOu b] 31) (List.replicate 18 false) [] ⟨[], [], [4], 0, 0, false⟩ =
    some (HX.ret, [], [(4, Value.bool false)], [false = false, (false == true) = false, (false == true) = false, (false == true) = false, (false == true) = false, (false == true) = false, false = false, (false == true) = false, (false == true) = false, (false == true) = false, (false == true) = false, (false == true) = false, (a.snd.fst == b.snd.fst) = false, ((a.snd.fst == b.snd.fst) == true) = false, ((a.snd.fst == b.snd.fst) == true) = false, ((a.snd.fst == b.snd.fst) == true) = false, ((a.snd.fst == b.snd.fst) == true) = false, ((a.snd.fst == b.snd.fst) == true) = false]) := by kernel_rfl

theorem su_2 (a b : Ou) : hrun Tryd.prog kSu 5 (pcs Tryd.prog 12) St0 (entF [encOu a, encOu b] 31) (List.replicate 6 true ++ List.replicate 12 false) [] ⟨[], [], [4], 0, 0, false⟩ =
    some (HX.ret, [], [(4, Value.bool false)], [false = false, (false == true) = false, (false == true) = false, (false == true) = false, (false == true) = false, (false == true) = false, List.all ([(Value.bool a.snd.snd.fst.fst, Value.bool b.snd.snd.fst.fst)] ++ ([(Value.int IntKind.i64 a.snd.snd.fst.snd, Value.int IntKind.i64 b.snd.snd.fst.snd)] ++ [])) leafEq = false, (List.all ([(Value.bool a.snd.snd.fst.fst, Value.bool b.snd.snd.fst.fst)] ++ ([(Value.int IntKind.i64 a.snd.snd.fst.snd, Value.int IntKind.i64 b.snd.snd.fst.snd)] ++ [])) leafEq == true) = false, (List.all ([(Value.bool a.snd.snd.fst.fst, Value.bool b.snd.snd.fst.fst)] ++ ([(Value.int IntKind.i64 a.snd.snd.fst.snd, Value.int IntKind.i64 b.snd.snd.fst.snd)] ++ [])) leafEq == true) = false, (List.all ([(Value.bool a.snd.snd.fst.fst, Value.bool b.snd.snd.fst.fst)] ++ ([(Value.int IntKind.i64 a.snd.snd.fst.snd, Value.int IntKind.i64 b.snd.snd.fst.snd)] ++ [])) leafEq == true) = false, (List.all ([(Value.bool a.snd.snd.fst.fst, Value.bool b.snd.snd.fst.fst)] ++ ([(Value.int IntKind.i64 a.snd.snd.fst.snd, Value.int IntKind.i64 b.snd.snd.fst.snd)] ++ [])) leafEq == true) = false, (List.all ([(Value.bool a.snd.snd.fst.fst, Value.bool b.snd.snd.fst.fst)] ++ ([(Value.int IntKind.i64 a.snd.snd.fst.snd, Value.int IntKind.i64 b.snd.snd.fst.snd)] ++ [])) leafEq == true) = false, (a.snd.fst == b.snd.fst) = true, ((a.snd.fst == b.snd.fst) == true) = true, ((a.snd.fst == b.snd.fst) == true) = true, ((a.snd.fst == b.snd.fst) == true) = true, ((a.snd.fst == b.snd.fst) == true) = true, ((a.snd.fst == b.snd.fst) == true) = true]) := by kernel_rfl

theorem su_3 (a b : Ou) : hrun Tryd.prog kSu 5 (pcs Tryd.prog 12) St0 (entF [encOu a, encOu b] 31) (List.replicate 12 true ++ List.replicate 6 false) [[.bool false]] ⟨[], [], [4], 0, 0, false⟩ =
    some (HX.ret, [], [(4, Value.bool false)], [false = false, (false == true) = false, (false == true) = false, (false == true) = false, (false == true) = false, (false == true) = false, List.all ([(Value.bool a.snd.snd.fst.fst, Value.bool b.snd.snd.fst.fst)] ++ ([(Value.int IntKind.i64 a.snd.snd.fst.snd, Value.int IntKind.i64 b.snd.snd.fst.snd)] ++ [])) leafEq = true, relSa [frz (List.map encA a.fst), frz (List.map encA b.fst)] (Value.bool false), (List.all ([(Value.bool a.snd.snd.fst.fst, Value.bool b.snd.snd.fst.fst)] ++ ([(Value.int IntKind.i64 a.snd.snd.fst.snd, Value.int IntKind.i64 b.snd.snd.fst.snd)] ++ [])) leafEq == true) = true, (List.all ([(Value.bool a.snd.snd.fst.fst, Value.bool b.snd.snd.fst.fst)] ++ ([(Value.int IntKind.i64 a.snd.snd.fst.snd, Value.int IntKind.i64 b.snd.snd.fst.snd)] ++ [])) leafEq == true) = true, (List.all ([(Value.bool a.snd.snd.fst.fst, Value.bool b.snd.snd.fst.fst)] ++ ([(Value.int IntKind.i64 a.snd.snd.fst.snd, Value.int IntKind.i64 b.snd.snd.fst.snd)] ++ [])) leafEq == true) = true, (List.all ([(Value.bool a.snd.snd.fst.fst, Value.bool b.snd.snd.fst.fst)] ++ ([(Value.int IntKind.i64 a.snd.snd.fst.snd, Value.int IntKind.i64 b.snd.snd.fst.snd)] ++ [])) leafEq == true) = true, (List.all ([(Value.bool a.snd.snd.fst.fst, Value.bool b.snd.snd.fst.fst)] ++ ([(Value.int IntKind.i64 a.snd.snd.fst.snd, Value.int IntKind.i64 b.snd.snd.fst.snd)] ++ [])) leafEq == true) = true, (a.snd.fst == b.snd.fst) = true, ((a.snd.fst == b.snd.fst) == true) = true, ((a.snd.fst == b.snd.fst) == true) = true, ((a.snd.fst == b.snd.fst) == true) = true, ((a.snd.fst == b.snd.fst) == true) = true, ((a.snd.fst == b.snd.fst) == true) = true]) := by kernel_rfl

theorem su_4 (a b : Ou) (c : Bool) : hrun Tryd.prog kSu 5 (pcs Tryd.prog 12) St0 (entF [encOu a, encOu b] 31) (List.replicate 18 true) [[.bool true], [.bool c]] ⟨[], [], [4], 0, 0, false⟩ =
    some (HX.ret, [], [(4, Value.bool c)], [true = true, relSm [Value.agg { toList := [frz (List.map encO a.snd.snd.snd)] }, Value.agg { toList := [frz (List.map encO b.snd.snd.snd)] }] (Value.bool c), (true == true) = true, (true == true) = true, (true == true) = true, (true == true) = true, (true == true) = true, List.all ([(Value.bool a.snd.snd.fst.fst, Value.bool b.snd.snd.fst.fst)] ++ ([(Value.int IntKind.i64 a.snd.snd.fst.snd, Value.int IntKind.i64 b.snd.snd.fst.snd)] ++ [])) leafEq = true, relSa [frz (List.map encA a.fst), frz (List.map encA b.fst)] (Value.bool true), (List.all ([(Value.bool a.snd.snd.fst.fst, Value.bool b.snd.snd.fst.fst)] ++ ([(Value.int IntKind.i64 a.snd.snd.fst.snd, Value.int IntKind.i64 b.snd.snd.fst.snd)] ++ [])) leafEq == true) = true, (List.all ([(Value.bool a.snd.snd.fst.fst, Value.bool b.snd.snd.fst.fst)] ++ ([(Value.int IntKind.i64 a.snd.snd.fst.snd, Value.int IntKind.i64 b.snd.snd.fst.snd)] ++ [])) leafEq == true) = true, (List.all ([(Value.bool a.snd.snd.fst.fst, Value.bool b.snd.snd.fst.fst)] ++ ([(Value.int IntKind.i64 a.snd.snd.fst.snd, Value.int IntKind.i64 b.snd.snd.fst.snd)] ++ [])) leafEq == true) = true, (List.all ([(Value.bool a.snd.snd.fst.fst, Value.bool b.snd.snd.fst.fst)] ++ ([(Value.int IntKind.i64 a.snd.snd.fst.snd, Value.int IntKind.i64 b.snd.snd.fst.snd)] ++ [])) leafEq == true) = true, (List.all ([(Value.bool a.snd.snd.fst.fst, Value.bool b.snd.snd.fst.fst)] ++ ([(Value.int IntKind.i64 a.snd.snd.fst.snd, Value.int IntKind.i64 b.snd.snd.fst.snd)] ++ [])) leafEq == true) = true, (a.snd.fst == b.snd.fst) = true, ((a.snd.fst == b.snd.fst) == true) = true, ((a.snd.fst == b.snd.fst) == true) = true, ((a.snd.fst == b.snd.fst) == true) = true, ((a.snd.fst == b.snd.fst) == true) = true, ((a.snd.fst == b.snd.fst) == true) = true]) := by kernel_rfl

theorem su_f (b : Bool) : hfin Tryd.prog Tryd.f12 (mkSt [] 0 0) (mkF [(4, .bool b)] 31) [] ⟨[], [], [], 0, 0, false⟩ =
    some (Value.bool b, [], []) := by kernel_rfl

theorem leafW (x y : V) : List.all ([(Value.bool x.fst, Value.bool y.fst)] ++ ([(Value.int IntKind.i64 x.snd, Value.int IntKind.i64 y.snd)] ++ [])) leafEq = decide (x = y) := by
  have := leafV x y
  cases h : List.all ([(Value.bool x.fst, Value.bool y.fst)] ++ ([(Value.int IntKind.i64 x.snd, Value.int IntKind.i64 y.snd)] ++ [])) leafEq <;> rw [h] at this <;> cases hd : decide (x = y) <;> rw [hd] at this <;> first | rfl | cases this
theorem su_ok (a b : Ou) (h1 : a.1.length ≤ 9000000000000000000) (h2 : SmO a.2.2.2) : FnEx Tryd.prog 12 [encOu a, encOu b] St0 (fun u _ => u = .bool (decide (a = b))) := by
  refine FnEx.enter (n0 := 0) (fn := Tryd.f12) (c := bodyOf Tryd.prog 12) Tryd.func12 (by kernel_rfl) rfl rfl ?_
  have hA : relSa [encAs a.1, encAs b.1] (.bool (decide (a.1 = b.1))) := ⟨a.1, b.1, h1, rfl, rfl⟩
  have hH : relSm [encH a.2.2.2, encH b.2.2.2] (.bool (decide (a.2.2.2 = b.2.2.2))) := ⟨_, _, h2, rfl, rfl⟩
  have hV := leafW a.2.2.1 b.2.2.1
  by_cases ht : a.2.1 = b.2.1
  · have ht' : (a.2.1 == b.2.1) = true := by simp [ht]
    by_cases hv : a.2.2.1 = b.2.2.1
    · rw [decide_eq_true hv] at hV
      by_cases ha : a.1 = b.1
      · rw [decide_eq_true ha] at hA
        refine Ex.stepN noGT kSu_ok 99 31 0 0 (su_4 a b (decide (a.2.2.2 = b.2.2.2))) rfl ?_ ?_
        · (repeat' refine allP.cons ?_ ?_) <;> first | exact allP.nil | assumption | rfl | (rw [hV]; rfl) | (rw [ht']; rfl)
        · refine FinQ.mk' (.inr rfl) (su_f _) rfl .nil ?_
          congr 1
          simp [Prod.ext_iff, ha, ht]
          intro _
          have := Prod.ext_iff.1 hv
          exact this
      · rw [decide_eq_false ha] at hA
        refine Ex.stepN noGT kSu_ok 99 31 0 0 (su_3 a b) rfl ?_ ?_
        · (repeat' refine allP.cons ?_ ?_) <;> first | exact allP.nil | assumption | rfl | (rw [hV]; rfl) | (rw [ht']; rfl)
        · exact FinQ.mk' (.inr rfl) (su_f _) rfl .nil (by rw [decide_eq_false]; intro h; exact ha (by rw [h]))
    · rw [decide_eq_false hv] at hV
      refine Ex.stepN noGT kSu_ok 99 31 0 0 (su_2 a b) rfl ?_ ?_
      · (repeat' refine allP.cons ?_ ?_) <;> first | exact allP.nil | assumption | rfl | (rw [hV]; rfl) | (rw [ht']; rfl)
      · exact FinQ.mk' (.inr rfl) (su_f _) rfl .nil (by rw [decide_eq_false]; intro h; exact hv (by rw [h]))
  · have ht' : (a.2.1 == b.2.1) = false := by simp [ht]
    refine Ex.stepN noGT kSu_ok 99 31 0 0 (su_1 a b) rfl ?_ ?_
    · (repeat' refine allP.cons ?_ ?_) <;> first | exact allP.nil | assumption | rfl | (rw [ht']; rfl)
    · exact FinQ.mk' (.inr rfl) (su_f _) rfl .nil (by rw [decide_eq_false]; intro h; exact ht (by rw [h]))

end Go.Proofs.MA
