/- MachineApplies: comparisons by the program. Conditions: none. -/
import Derived.Test.YtpjfmjemmphheacDoorN1
set_option linter.all false
set_option linter.unusedVariables false
set_option linter.unusedSimpArgs false
namespace Go.Proofs.MA
open Go Go.Hx Go.RowKit Go.Proofs
set_option maxRecDepth 100000

def seF (a b : List A3) (l : List (Nat × Value)) : HF := mkF ([(0, encAs a), (1, encAs b)] ++ l) 26

theorem se_b (a b : List A3) : hrun Tryd.prog noK 5 (pcs Tryd.prog 24) St0 (entF [encAs a, encAs b] 26) [true] [] ⟨[], [], [4], 0, 0, false⟩ =
    some (HX.ret, [], [(4, Value.bool false)], [((↑(List.length (List.map encA a)) : Int) != (↑(List.length (List.map encA b)) : Int)) = true]) := by kernel_rfl

theorem se_c (a b : List A3) : hrun Tryd.prog noK 5 ((pcs Tryd.prog 24).take 4) St0 (entF [encAs a, encAs b] 26) [false] [] ⟨[], [], [0, 1, 12, 13], 0, 0, false⟩ =
    some (HX.normal, [], [(0, frz (List.map encA a)), (1, frz (List.map encA b)), (12, Value.int IntKind.i64 (↑(List.length (List.map encA a)) : Int)), (13, Value.int IntKind.i64 0)], [((↑(List.length (List.map encA a)) : Int) != (↑(List.length (List.map encA b)) : Int)) = false]) := by kernel_rfl

theorem se_r (a b : List A3) (k n : Int) (x y : A3) : hrun Tryd.prog noK 5 (flatC (loopIn (nth (pcs Tryd.prog 24) 4))) St0 (seF a b [(12, .int .i64 n), (13, .int .i64 k)]) [true, false] [[encA x], [encA y]] ⟨[], [], [0, 1, 12, 13], 0, 0, false⟩ =
    some (HX.normal, [], [(0, frz (List.map encA a)), (1, frz (List.map encA b)), (12, Value.int IntKind.i64 n), (13, Value.int IntKind.i64 (IntKind.wrap IntKind.i64 (k + 1)))], [(!List.all ([(Value.bool x.fst, Value.bool y.fst)] ++ ([(Value.int IntKind.i64 x.snd.fst, Value.int IntKind.i64 y.snd.fst)] ++ ([(Value.int IntKind.i64 x.snd.snd, Value.int IntKind.i64 y.snd.snd)] ++ []))) leafEq) = false, 0 ≤ k ∧ (List.map encA b)[Int.toNat k]? = some (Value.agg { toList := [Value.bool y.fst, Value.int IntKind.i64 y.snd.fst, Value.int IntKind.i64 y.snd.snd] }), 0 ≤ k ∧ (List.map encA a)[Int.toNat k]? = some (Value.agg { toList := [Value.bool x.fst, Value.int IntKind.i64 x.snd.fst, Value.int IntKind.i64 x.snd.snd] }), decide (k < n) = true]) := by kernel_rfl

theorem se_h (a b : List A3) (k n : Int) (x y : A3) : hrun Tryd.prog noK 5 (flatC (loopIn (nth (pcs Tryd.prog 24) 4))) St0 (seF a b [(12, .int .i64 n), (13, .int .i64 k)]) [true, true] [[encA x], [encA y]] ⟨[], [], [4], 0, 0, false⟩ =
    some (HX.ret, [], [(4, Value.bool false)], [(!List.all ([(Value.bool x.fst, Value.bool y.fst)] ++ ([(Value.int IntKind.i64 x.snd.fst, Value.int IntKind.i64 y.snd.fst)] ++ ([(Value.int IntKind.i64 x.snd.snd, Value.int IntKind.i64 y.snd.snd)] ++ []))) leafEq) = true, 0 ≤ k ∧ (List.map encA b)[Int.toNat k]? = some (Value.agg { toList := [Value.bool y.fst, Value.int IntKind.i64 y.snd.fst, Value.int IntKind.i64 y.snd.snd] }), 0 ≤ k ∧ (List.map encA a)[Int.toNat k]? = some (Value.agg { toList := [Value.bool x.fst, Value.int IntKind.i64 x.snd.fst, Value.int IntKind.i64 x.snd.snd] }), decide (k < n) = true]) := by kernel_rfl

theorem se_x (a b : List A3) (k n : Int) : hrun Tryd.prog noK 5 (flatC (loopIn (nth (pcs Tryd.prog 24) 4))) St0 (seF a b [(12, .int .i64 n), (13, .int .i64 k)]) [false] [] ⟨[], [], [], 0, 0, false⟩ =
    some (HX.exit 0, [], [], [decide (k < n) = false]) := by kernel_rfl

theorem se_e (u : Unit) : hrun Tryd.prog noK 5 ((pcs Tryd.prog 24).drop 5) (mkSt [] 0 0) (mkF [] 26) [] [] ⟨[], [], [4], 0, 0, false⟩ =
    some (HX.ret, [], [(4, Value.bool true)], []) := by kernel_rfl

theorem se_f (b : Bool) : hfin Tryd.prog Tryd.f24 (mkSt [] 0 0) (mkF [(4, .bool b)] 26) [] ⟨[], [], [], 0, 0, false⟩ =
    some (Value.bool b, [], []) := by kernel_rfl

theorem se_l4 : (pcs Tryd.prog 24).drop 4 = .block 0 (.loop (loopIn (nth (pcs Tryd.prog 24) 4))) :: (pcs Tryd.prog 24).drop 5 := by kernel_rfl

theorem se_ok (a b : List A3) (hl : a.length ≤ 9000000000000000000) : FnEx Tryd.prog 24 [encAs a, encAs b] St0 (fun u _ => u = .bool (decide (a = b))) := by
  refine FnEx.enter (n0 := 0) (fn := Tryd.f24) (c := bodyOf Tryd.prog 24) Tryd.func24 (by kernel_rfl) rfl rfl ?_
  show Ex _ _ (pcs Tryd.prog 24) _ _ _
  by_cases h2 : a.length = b.length
  · have e2 : ((((List.map encA a).length : Nat) : Int) != (((List.map encA b).length : Nat) : Int)) = false := by simp [h2]
    refine Ex.stepN noGT noK_ok 4 26 0 0 (se_c a b) rfl (.cons e2 .nil) ?_
    show Ex _ _ ((pcs Tryd.prog 24).drop 4) _ _ _
    rw [se_l4, show (List.map encA a).length = a.length from List.length_map ..]
    refine Ex.loop (fun m s f => ∃ p q r, a = p ++ q ∧ b = p ++ r ∧ q.length = m ∧ s = St0 ∧ f = seF a b [(12, .int .i64 a.length), (13, .int .i64 p.length)]) ?_ ⟨[], a, b, rfl, rfl, rfl, rfl, rfl⟩
    rintro m s f ⟨p, q, r, hp, hr, hm, rfl, rfl⟩
    have hqr : q.length = r.length := by rw [hp, hr] at h2; simpa using h2
    cases q with
    | nil =>
      have : r = [] := List.eq_nil_of_length_eq_zero (by rw [← hqr]; rfl)
      subst this
      refine Ex.stepN noGT noK_ok 99 26 0 0 (se_x a b p.length a.length) rfl (.cons (by rw [hp]; simp) .nil) ?_
      refine goOn.out ?_
      refine Ex.stepN noGT noK_ok 99 26 0 0 (se_e ()) rfl .nil ?_
      exact FinQ.mk' (.inr rfl) (se_f true) rfl .nil (by rw [show decide (a = b) = true by simp [hp, hr]])
    | cons x q =>
      cases r with
      | nil => simp at hqr
      | cons y r =>
        have hlt : p.length < a.length := by rw [hp]; simp
        have hka : a[p.length]? = some x := by rw [hp]; exact at_split p x q
        have hkb : b[p.length]? = some y := by rw [hr]; exact at_split p y r
        have hA : 0 ≤ ((p.length : Nat) : Int) ∧ (List.map encA a)[((p.length : Nat) : Int).toNat]? = some (encA x) := ⟨by omega, map_at hka⟩
        have hB : 0 ≤ ((p.length : Nat) : Int) ∧ (List.map encA b)[((p.length : Nat) : Int).toNat]? = some (encA y) := ⟨by omega, map_at hkb⟩
        have hd : decide (((p.length : Nat) : Int) < ((a.length : Nat) : Int)) = true := by simp; omega
        by_cases hxy : x = y
        · have he : (!List.all ([(Value.bool x.fst, Value.bool y.fst)] ++ ([(Value.int IntKind.i64 x.snd.fst, Value.int IntKind.i64 y.snd.fst)] ++ ([(Value.int IntKind.i64 x.snd.snd, Value.int IntKind.i64 y.snd.snd)] ++ []))) leafEq) = false := by rw [leafA]; simp [hxy]
          refine Ex.stepN noGT noK_ok 99 26 0 0 (se_r a b p.length a.length x y) rfl (by ((repeat' refine allP.cons ?_ ?_) <;> first | exact allP.nil | assumption | rfl | (exact ⟨by omega, by assumption⟩) | (simp; done) | (simp; omega) | skip)) ?_
          have hw : IntKind.wrap IntKind.i64 ((p.length : Int) + 1) = ((p ++ [x]).length : Int) := by
            rw [IntWalk.i64_in _ (by omega)]; simp
          rw [hw]
          exact Ex.nil ⟨m - 1, by simp at hm; omega, p ++ [x], q, r, by simp [hp], by simp [hr, hxy], by simp at hm; omega, rfl, rfl⟩
        · have he : (!List.all ([(Value.bool x.fst, Value.bool y.fst)] ++ ([(Value.int IntKind.i64 x.snd.fst, Value.int IntKind.i64 y.snd.fst)] ++ ([(Value.int IntKind.i64 x.snd.snd, Value.int IntKind.i64 y.snd.snd)] ++ []))) leafEq) = true := by rw [leafA]; simp [hxy]
          refine Ex.stepN noGT noK_ok 99 26 0 0 (se_h a b p.length a.length x y) rfl (by ((repeat' refine allP.cons ?_ ?_) <;> first | exact allP.nil | assumption | rfl | (exact ⟨by omega, by assumption⟩) | (simp; done) | (simp; omega) | skip)) ?_
          exact FinQ.mk' (.inr rfl) (se_f false) rfl .nil (by rw [show decide (a = b) = false by simp [hp, hr, hxy]])
  · have e2 : ((((List.map encA a).length : Nat) : Int) != (((List.map encA b).length : Nat) : Int)) = true := by
      simp; omega
    refine Ex.stepN noGT noK_ok 99 26 0 0 (se_b a b) rfl (.cons e2 .nil) ?_
    exact FinQ.mk' (.inr rfl) (se_f false) rfl .nil (by rw [show decide (a = b) = false by simp only [decide_eq_false_iff_not]; exact fun h => h2 (by rw [h])])

def svF (a b : List V) (l : List (Nat × Value)) : HF := mkF ([(0, encFs a), (1, encFs b)] ++ l) 26

theorem sv_b (a b : List V) : hrun Tryd.prog noK 5 (pcs Tryd.prog 45) St0 (entF [encFs a, encFs b] 26) [true] [] ⟨[], [], [4], 0, 0, false⟩ =
    some (HX.ret, [], [(4, Value.bool false)], [((↑(List.length (List.map encV a)) : Int) != (↑(List.length (List.map encV b)) : Int)) = true]) := by kernel_rfl

theorem sv_c (a b : List V) : hrun Tryd.prog noK 5 ((pcs Tryd.prog 45).take 4) St0 (entF [encFs a, encFs b] 26) [false] [] ⟨[], [], [0, 1, 12, 13], 0, 0, false⟩ =
    some (HX.normal, [], [(0, frz (List.map encV a)), (1, frz (List.map encV b)), (12, Value.int IntKind.i64 (↑(List.length (List.map encV a)) : Int)), (13, Value.int IntKind.i64 0)], [((↑(List.length (List.map encV a)) : Int) != (↑(List.length (List.map encV b)) : Int)) = false]) := by kernel_rfl

theorem sv_r (a b : List V) (k n : Int) (x y : V) : hrun Tryd.prog noK 5 (flatC (loopIn (nth (pcs Tryd.prog 45) 4))) St0 (svF a b [(12, .int .i64 n), (13, .int .i64 k)]) [true, false] [[encV x], [encV y]] ⟨[], [], [0, 1, 12, 13], 0, 0, false⟩ =
    some (HX.normal, [], [(0, frz (List.map encV a)), (1, frz (List.map encV b)), (12, Value.int IntKind.i64 n), (13, Value.int IntKind.i64 (IntKind.wrap IntKind.i64 (k + 1)))], [(!List.all ([(Value.bool x.fst, Value.bool y.fst)] ++ ([(Value.int IntKind.i64 x.snd, Value.int IntKind.i64 y.snd)] ++ [])) leafEq) = false, 0 ≤ k ∧ (List.map encV b)[Int.toNat k]? = some (Value.agg { toList := [Value.bool y.fst, Value.int IntKind.i64 y.snd] }), 0 ≤ k ∧ (List.map encV a)[Int.toNat k]? = some (Value.agg { toList := [Value.bool x.fst, Value.int IntKind.i64 x.snd] }), decide (k < n) = true]) := by kernel_rfl

theorem sv_h (a b : List V) (k n : Int) (x y : V) : hrun Tryd.prog noK 5 (flatC (loopIn (nth (pcs Tryd.prog 45) 4))) St0 (svF a b [(12, .int .i64 n), (13, .int .i64 k)]) [true, true] [[encV x], [encV y]] ⟨[], [], [4], 0, 0, false⟩ =
    some (HX.ret, [], [(4, Value.bool false)], [(!List.all ([(Value.bool x.fst, Value.bool y.fst)] ++ ([(Value.int IntKind.i64 x.snd, Value.int IntKind.i64 y.snd)] ++ [])) leafEq) = true, 0 ≤ k ∧ (List.map encV b)[Int.toNat k]? = some (Value.agg { toList := [Value.bool y.fst, Value.int IntKind.i64 y.snd] }), 0 ≤ k ∧ (List.map encV a)[Int.toNat k]? = some (Value.agg { toList := [Value.bool x.fst, Value.int IntKind.i64 x.snd] }), decide (k < n) = true]) := by kernel_rfl

theorem sv_x (a b : List V) (k n : Int) : hrun Tryd.prog noK 5 (flatC (loopIn (nth (pcs Tryd.prog 45) 4))) St0 (svF a b [(12, .int .i64 n), (13, .int .i64 k)]) [false] [] ⟨[], [], [], 0, 0, false⟩ =
    some (HX.exit 0, [], [], [decide (k < n) = false]) := by kernel_rfl

theorem sv_e (u : Unit) : hrun Tryd.prog noK 5 ((pcs Tryd.prog 45).drop 5) (mkSt [] 0 0) (mkF [] 26) [] [] ⟨[], [], [4], 0, 0, false⟩ =
    some (HX.ret, [], [(4, Value.bool true)], []) := by kernel_rfl

theorem sv_f (b : Bool) : hfin Tryd.prog Tryd.f45 (mkSt [] 0 0) (mkF [(4, .bool b)] 26) [] ⟨[], [], [], 0, 0, false⟩ =
    some (Value.bool b, [], []) := by kernel_rfl

theorem sv_l4 : (pcs Tryd.prog 45).drop 4 = .block 0 (.loop (loopIn (nth (pcs Tryd.prog 45) 4))) :: (pcs Tryd.prog 45).drop 5 := by kernel_rfl

theorem sv_ok (a b : List V) (hl : a.length ≤ 9000000000000000000) : FnEx Tryd.prog 45 [encFs a, encFs b] St0 (fun u _ => u = .bool (decide (a = b))) := by
  refine FnEx.enter (n0 := 0) (fn := Tryd.f45) (c := bodyOf Tryd.prog 45) Tryd.func45 (by kernel_rfl) rfl rfl ?_
  show Ex _ _ (pcs Tryd.prog 45) _ _ _
  by_cases h2 : a.length = b.length
  · have e2 : ((((List.map encV a).length : Nat) : Int) != (((List.map encV b).length : Nat) : Int)) = false := by simp [h2]
    refine Ex.stepN noGT noK_ok 4 26 0 0 (sv_c a b) rfl (.cons e2 .nil) ?_
    show Ex _ _ ((pcs Tryd.prog 45).drop 4) _ _ _
    rw [sv_l4, show (List.map encV a).length = a.length from List.length_map ..]
    refine Ex.loop (fun m s f => ∃ p q r, a = p ++ q ∧ b = p ++ r ∧ q.length = m ∧ s = St0 ∧ f = svF a b [(12, .int .i64 a.length), (13, .int .i64 p.length)]) ?_ ⟨[], a, b, rfl, rfl, rfl, rfl, rfl⟩
    rintro m s f ⟨p, q, r, hp, hr, hm, rfl, rfl⟩
    have hqr : q.length = r.length := by rw [hp, hr] at h2; simpa using h2
    cases q with
    | nil =>
      have : r = [] := List.eq_nil_of_length_eq_zero (by rw [← hqr]; rfl)
      subst this
      refine Ex.stepN noGT noK_ok 99 26 0 0 (sv_x a b p.length a.length) rfl (.cons (by rw [hp]; simp) .nil) ?_
      refine goOn.out ?_
      refine Ex.stepN noGT noK_ok 99 26 0 0 (sv_e ()) rfl .nil ?_
      exact FinQ.mk' (.inr rfl) (sv_f true) rfl .nil (by rw [show decide (a = b) = true by simp [hp, hr]])
    | cons x q =>
      cases r with
      | nil => simp at hqr
      | cons y r =>
        have hlt : p.length < a.length := by rw [hp]; simp
        have hka : a[p.length]? = some x := by rw [hp]; exact at_split p x q
        have hkb : b[p.length]? = some y := by rw [hr]; exact at_split p y r
        have hA : 0 ≤ ((p.length : Nat) : Int) ∧ (List.map encV a)[((p.length : Nat) : Int).toNat]? = some (encV x) := ⟨by omega, map_at hka⟩
        have hB : 0 ≤ ((p.length : Nat) : Int) ∧ (List.map encV b)[((p.length : Nat) : Int).toNat]? = some (encV y) := ⟨by omega, map_at hkb⟩
        have hd : decide (((p.length : Nat) : Int) < ((a.length : Nat) : Int)) = true := by simp; omega
        by_cases hxy : x = y
        · have he : (!List.all ([(Value.bool x.fst, Value.bool y.fst)] ++ ([(Value.int IntKind.i64 x.snd, Value.int IntKind.i64 y.snd)] ++ [])) leafEq) = false := by rw [leafV]; simp [hxy]
          refine Ex.stepN noGT noK_ok 99 26 0 0 (sv_r a b p.length a.length x y) rfl (by ((repeat' refine allP.cons ?_ ?_) <;> first | exact allP.nil | assumption | rfl | (exact ⟨by omega, by assumption⟩) | (simp; done) | (simp; omega) | skip)) ?_
          have hw : IntKind.wrap IntKind.i64 ((p.length : Int) + 1) = ((p ++ [x]).length : Int) := by
            rw [IntWalk.i64_in _ (by omega)]; simp
          rw [hw]
          exact Ex.nil ⟨m - 1, by simp at hm; omega, p ++ [x], q, r, by simp [hp], by simp [hr, hxy], by simp at hm; omega, rfl, rfl⟩
        · have he : (!List.all ([(Value.bool x.fst, Value.bool y.fst)] ++ ([(Value.int IntKind.i64 x.snd, Value.int IntKind.i64 y.snd)] ++ [])) leafEq) = true := by rw [leafV]; simp [hxy]
          refine Ex.stepN noGT noK_ok 99 26 0 0 (sv_h a b p.length a.length x y) rfl (by ((repeat' refine allP.cons ?_ ?_) <;> first | exact allP.nil | assumption | rfl | (exact ⟨by omega, by assumption⟩) | (simp; done) | (simp; omega) | skip)) ?_
          exact FinQ.mk' (.inr rfl) (sv_f false) rfl .nil (by rw [show decide (a = b) = false by simp [hp, hr, hxy]])
  · have e2 : ((((List.map encV a).length : Nat) : Int) != (((List.map encV b).length : Nat) : Int)) = true := by
      simp; omega
    refine Ex.stepN noGT noK_ok 99 26 0 0 (sv_b a b) rfl (.cons e2 .nil) ?_
    exact FinQ.mk' (.inr rfl) (sv_f false) rfl .nil (by rw [show decide (a = b) = false by simp only [decide_eq_false_iff_not]; exact fun h => h2 (by rw [h])])

end Go.Proofs.MA

namespace Go.Proofs.MA
open Go Go.Hx Go.RowKit Go.Proofs
set_option maxRecDepth 100000

def relSv : Rel := fun args v => ∃ a b : List V, a.length ≤ 9000000000000000000 ∧ args = [encFs a, encFs b] ∧ v = .bool (decide (a = b))
def kSv : HCall := specK [(45, relSv)]
theorem kSv_ok : CallOK Tryd.prog kSv := specK_ok fun g rel hm args v h _ _ => by
  simp only [List.mem_cons, Prod.mk.injEq, List.mem_nil_iff, or_false] at hm
  obtain ⟨rfl, rfl⟩ := hm
  obtain ⟨a, b, h, rfl, rfl⟩ := h
  exact sv_ok a b h

theorem sx_1 (a b : O) : hrun Tryd.prog kSv 5 (pcs Tryd.prog 44) St0 (entF [encO a, encO b] 17) (List.replicate 6 false) [] ⟨[], [], [4], 0, 0, false⟩ =
    some (HX.ret, [], [(4, Value.bool false)], [(a.fst == b.fst) = false, ((a.fst == b.fst) == true) = false, ((a.fst == b.fst) == true) = false, ((a.fst == b.fst) == true) = false, ((a.fst == b.fst) == true) = false, ((a.fst == b.fst) == true) = false]) := by kernel_rfl

theorem sx_2 (a b : O) (c : Bool) : hrun Tryd.prog kSv 5 (pcs Tryd.prog 44) St0 (entF [encO a, encO b] 17) (List.replicate 6 true) [[.bool c]] ⟨[], [], [4], 0, 0, false⟩ =
    some (HX.ret, [], [(4, Value.bool c)], [(a.fst == b.fst) = true, relSv [frz (List.map encV a.snd), frz (List.map encV b.snd)] (Value.bool c), ((a.fst == b.fst) == true) = true, ((a.fst == b.fst) == true) = true, ((a.fst == b.fst) == true) = true, ((a.fst == b.fst) == true) = true, ((a.fst == b.fst) == true) = true]) := by kernel_rfl

theorem sx_f (b : Bool) : hfin Tryd.prog Tryd.f44 (mkSt [] 0 0) (mkF [(4, .bool b)] 17) [] ⟨[], [], [], 0, 0, false⟩ =
    some (Value.bool b, [], []) := by kernel_rfl

theorem sx_ok (a b : O) (ha : a.2.length ≤ 9000000000000000000) : FnEx Tryd.prog 44 [encO a, encO b] St0 (fun u _ => u = .bool (sameO a b)) := by
  refine FnEx.enter (n0 := 0) (fn := Tryd.f44) (c := bodyOf Tryd.prog 44) Tryd.func44 (by kernel_rfl) rfl rfl ?_
  have hV : relSv [encFs a.2, encFs b.2] (.bool (decide (a.2 = b.2))) := ⟨a.2, b.2, ha, rfl, rfl⟩
  by_cases h : a.1 = b.1
  · have h' : (a.1 == b.1) = true := by simp [h]
    refine Ex.stepN noGT kSv_ok 99 17 0 0 (sx_2 a b (decide (a.2 = b.2))) rfl ?_ ?_
    · (repeat' refine allP.cons ?_ ?_) <;> first | exact allP.nil | assumption | rfl | (rw [h']; rfl)
    · exact FinQ.mk' (.inr rfl) (sx_f _) rfl .nil (by simp [sameO, h])
  · have h' : (a.1 == b.1) = false := by simp [h]
    refine Ex.stepN noGT kSv_ok 99 17 0 0 (sx_1 a b) rfl ?_ ?_
    · (repeat' refine allP.cons ?_ ?_) <;> first | exact allP.nil | assumption | rfl | (rw [h']; rfl)
    · exact FinQ.mk' (.inr rfl) (sx_f _) rfl .nil (by simp [sameO, h])
def relSx : Rel := fun args v => ∃ a b : O, a.2.length ≤ 9000000000000000000 ∧ args = [encO a, encO b] ∧ v = .bool (sameO a b)
theorem relSx_ok : ∀ args v, relSx args v → FnEx Tryd.prog 44 args St0 (fun u _ => u = v) := by
  rintro args v ⟨a, b, h, rfl, rfl⟩
  exact sx_ok a b h

end Go.Proofs.MA

namespace Go.Proofs.MA
open Go Go.Hx Go.RowKit Go.Proofs
set_option maxRecDepth 100000

def kSx : HCall := specK [(44, relSx)]
theorem kSx_ok : CallOK Tryd.prog kSx := specK_ok fun g rel hm args v h _ _ => by
  simp only [List.mem_cons, Prod.mk.injEq, List.mem_nil_iff, or_false] at hm
  obtain ⟨rfl, rfl⟩ := hm
  exact relSx_ok args v h
def fn44 : Value := .func (.func 44) ⟨[]⟩ ⟨[]⟩
def efF (a b : List O) (l : List (Nat × Value)) : HF := mkF ([(1, encOs b), (2, fn44), (15, encOs a)] ++ l) 32

theorem ef_b (a b : List O) : hrun Tryd.prog kSx 5 (pcs Tryd.prog 43) St0 (entF [encOs a, encOs b, fn44] 32) [true] [] ⟨[], [], [6], 0, 0, false⟩ =
    some (HX.ret, [], [(6, Value.bool false)], [((↑(List.length (List.map encO a)) : Int) != (↑(List.length (List.map encO b)) : Int)) = true]) := by kernel_rfl

theorem ef_c (a b : List O) : hrun Tryd.prog kSx 5 ((pcs Tryd.prog 43).take 4) St0 (entF [encOs a, encOs b, fn44] 32) [false] [] ⟨[], [], [1, 2, 15, 16, 17], 0, 0, false⟩ =
    some (HX.normal, [], [(1, frz (List.map encO b)), (2, Value.func (Fn.func 44) { toList := [] } { toList := [] }), (15, frz (List.map encO a)), (16, Value.int IntKind.i64 (↑(List.length (List.map encO a)) : Int)), (17, Value.int IntKind.i64 0)], [((↑(List.length (List.map encO a)) : Int) != (↑(List.length (List.map encO b)) : Int)) = false]) := by kernel_rfl

theorem ef_r (a b : List O) (k n : Int) (x y : O) : hrun Tryd.prog kSx 5 (flatC (loopIn (nth (pcs Tryd.prog 43) 4))) St0 (efF a b [(16, .int .i64 n), (17, .int .i64 k)]) [true, false] [[encO x], [encO y], [.bool true]] ⟨[], [], [1, 2, 15, 16, 17], 0, 0, false⟩ =
    some (HX.normal, [], [(1, frz (List.map encO b)), (2, Value.func (Fn.func 44) { toList := [] } { toList := [] }), (15, frz (List.map encO a)), (16, Value.int IntKind.i64 n), (17, Value.int IntKind.i64 (IntKind.wrap IntKind.i64 (k + 1)))], [(!true) = false, relSx [Value.agg { toList := [Value.int IntKind.i64 x.fst, frz (List.map encV x.snd)] }, Value.agg { toList := [Value.int IntKind.i64 y.fst, frz (List.map encV y.snd)] }] (Value.bool true), 0 ≤ k ∧ (List.map encO b)[Int.toNat k]? = some (Value.agg { toList := [Value.int IntKind.i64 y.fst, frz (List.map encV y.snd)] }), 0 ≤ k ∧ (List.map encO a)[Int.toNat k]? = some (Value.agg { toList := [Value.int IntKind.i64 x.fst, frz (List.map encV x.snd)] }), decide (k < n) = true]) := by kernel_rfl

theorem ef_h (a b : List O) (k n : Int) (x y : O) : hrun Tryd.prog kSx 5 (flatC (loopIn (nth (pcs Tryd.prog 43) 4))) St0 (efF a b [(16, .int .i64 n), (17, .int .i64 k)]) [true, true] [[encO x], [encO y], [.bool false]] ⟨[], [], [6], 0, 0, false⟩ =
    some (HX.ret, [], [(6, Value.bool false)], [(!false) = true, relSx [Value.agg { toList := [Value.int IntKind.i64 x.fst, frz (List.map encV x.snd)] }, Value.agg { toList := [Value.int IntKind.i64 y.fst, frz (List.map encV y.snd)] }] (Value.bool false), 0 ≤ k ∧ (List.map encO b)[Int.toNat k]? = some (Value.agg { toList := [Value.int IntKind.i64 y.fst, frz (List.map encV y.snd)] }), 0 ≤ k ∧ (List.map encO a)[Int.toNat k]? = some (Value.agg { toList := [Value.int IntKind.i64 x.fst, frz (List.map encV x.snd)] }), decide (k < n) = true]) := by kernel_rfl

theorem ef_x (a b : List O) (k n : Int) : hrun Tryd.prog kSx 5 (flatC (loopIn (nth (pcs Tryd.prog 43) 4))) St0 (efF a b [(16, .int .i64 n), (17, .int .i64 k)]) [false] [] ⟨[], [], [], 0, 0, false⟩ =
    some (HX.exit 0, [], [], [decide (k < n) = false]) := by kernel_rfl

theorem ef_e (u : Unit) : hrun Tryd.prog kSx 5 ((pcs Tryd.prog 43).drop 5) (mkSt [] 0 0) (mkF [] 32) [] [] ⟨[], [], [6], 0, 0, false⟩ =
    some (HX.ret, [], [(6, Value.bool true)], []) := by kernel_rfl

theorem ef_f (b : Bool) : hfin Tryd.prog Tryd.f43 (mkSt [] 0 0) (mkF [(6, .bool b)] 32) [] ⟨[], [], [], 0, 0, false⟩ =
    some (Value.bool b, [], []) := by kernel_rfl

theorem sameO_eq9 {a b : O} : sameO a b = true ↔ a = b := by
  simp [sameO, Prod.ext_iff]
theorem ef_l4 : (pcs Tryd.prog 43).drop 4 = .block 0 (.loop (loopIn (nth (pcs Tryd.prog 43) 4))) :: (pcs Tryd.prog 43).drop 5 := by kernel_rfl

theorem ef_ok (a b : List O) (ha : SmO a) : FnEx Tryd.prog 43 [encOs a, encOs b, fn44] St0 (fun u _ => u = .bool (decide (a = b))) := by
  have hl := ha.1
  refine FnEx.enter (n0 := 0) (fn := Tryd.f43) (c := bodyOf Tryd.prog 43) Tryd.func43 (by kernel_rfl) rfl rfl ?_
  show Ex _ _ (pcs Tryd.prog 43) _ _ _
  by_cases h2 : a.length = b.length
  · have e2 : ((((List.map encO a).length : Nat) : Int) != (((List.map encO b).length : Nat) : Int)) = false := by simp [h2]
    refine Ex.stepN noGT kSx_ok 4 32 0 0 (ef_c a b) rfl (.cons e2 .nil) ?_
    show Ex _ _ ((pcs Tryd.prog 43).drop 4) _ _ _
    rw [ef_l4, show (List.map encO a).length = a.length from List.length_map ..]
    refine Ex.loop (fun m s f => ∃ p q r, a = p ++ q ∧ b = p ++ r ∧ q.length = m ∧ s = St0 ∧ f = efF a b [(16, .int .i64 a.length), (17, .int .i64 p.length)]) ?_ ⟨[], a, b, rfl, rfl, rfl, rfl, rfl⟩
    rintro m s f ⟨p, q, r, hp, hr, hm, rfl, rfl⟩
    have hqr : q.length = r.length := by rw [hp, hr] at h2; simpa using h2
    cases q with
    | nil =>
      have : r = [] := List.eq_nil_of_length_eq_zero (by rw [← hqr]; rfl)
      subst this
      refine Ex.stepN noGT kSx_ok 99 32 0 0 (ef_x a b p.length a.length) rfl (.cons (by rw [hp]; simp) .nil) ?_
      refine goOn.out ?_
      refine Ex.stepN noGT kSx_ok 99 32 0 0 (ef_e ()) rfl .nil ?_
      exact FinQ.mk' (.inr rfl) (ef_f true) rfl .nil (by rw [show decide (a = b) = true by simp [hp, hr]])
    | cons x q =>
      cases r with
      | nil => simp at hqr
      | cons y r =>
        have hlt : p.length < a.length := by rw [hp]; simp
        have hka : a[p.length]? = some x := by rw [hp]; exact at_split p x q
        have hkb : b[p.length]? = some y := by rw [hr]; exact at_split p y r
        have hA : 0 ≤ ((p.length : Nat) : Int) ∧ (List.map encO a)[((p.length : Nat) : Int).toNat]? = some (encO x) := ⟨by omega, map_at hka⟩
        have hB : 0 ≤ ((p.length : Nat) : Int) ∧ (List.map encO b)[((p.length : Nat) : Int).toNat]? = some (encO y) := ⟨by omega, map_at hkb⟩
        have hd : decide (((p.length : Nat) : Int) < ((a.length : Nat) : Int)) = true := by simp; omega
        have hs : SmV x.2 := ha.2 x (by rw [hp]; simp)
        have hS : relSx [encO x, encO y] (.bool (sameO x y)) := ⟨x, y, by unfold SmV at hs; omega, rfl, rfl⟩
        by_cases hxy : x = y
        · have he : sameO x y = true := sameO_eq9.2 hxy
          rw [he] at hS
          refine Ex.stepN noGT kSx_ok 99 32 0 0 (ef_r a b p.length a.length x y) rfl (by ((repeat' refine allP.cons ?_ ?_) <;> first | exact allP.nil | assumption | rfl | (exact ⟨by omega, by assumption⟩) | (simp; done) | (simp; omega) | skip)) ?_
          have hw : IntKind.wrap IntKind.i64 ((p.length : Int) + 1) = ((p ++ [x]).length : Int) := by
            rw [IntWalk.i64_in _ (by omega)]; simp
          rw [hw]
          exact Ex.nil ⟨m - 1, by simp at hm; omega, p ++ [x], q, r, by simp [hp], by simp [hr, hxy], by simp at hm; omega, rfl, rfl⟩
        · have he : sameO x y = false := by
            cases hh : sameO x y with
            | false => rfl
            | true => exact absurd (sameO_eq9.1 hh) hxy
          rw [he] at hS
          refine Ex.stepN noGT kSx_ok 99 32 0 0 (ef_h a b p.length a.length x y) rfl (by ((repeat' refine allP.cons ?_ ?_) <;> first | exact allP.nil | assumption | rfl | (exact ⟨by omega, by assumption⟩) | (simp; done) | (simp; omega) | skip)) ?_
          exact FinQ.mk' (.inr rfl) (ef_f false) rfl .nil (by rw [show decide (a = b) = false by simp [hp, hr, hxy]])
  · have e2 : ((((List.map encO a).length : Nat) : Int) != (((List.map encO b).length : Nat) : Int)) = true := by
      simp; omega
    refine Ex.stepN noGT kSx_ok 99 32 0 0 (ef_b a b) rfl (.cons e2 .nil) ?_
    exact FinQ.mk' (.inr rfl) (ef_f false) rfl .nil (by rw [show decide (a = b) = false by simp only [decide_eq_false_iff_not]; exact fun h => h2 (by rw [h])])

end Go.Proofs.MA

namespace Go.Proofs.MA
open Go Go.Hx Go.RowKit Go.Proofs
set_option maxRecDepth 100000

def relEf : Rel := fun args v => ∃ a b : List O, SmO a ∧ args = [encOs a, encOs b, fn44] ∧ v = .bool (decide (a = b))
def kEf : HCall := specK [(43, relEf)]
theorem kEf_ok : CallOK Tryd.prog kEf := specK_ok fun g rel hm args v h _ _ => by
  simp only [List.mem_cons, Prod.mk.injEq, List.mem_nil_iff, or_false] at hm
  obtain ⟨rfl, rfl⟩ := hm
  obtain ⟨a, b, h, rfl, rfl⟩ := h
  exact ef_ok a b h

theorem hs_a (a b : List O) (c : Bool) : hrun Tryd.prog kEf 5 (pcs Tryd.prog 25) St0 (entF [encH a, encH b] 10) [] [[.bool c]] ⟨[], [], [4], 0, 0, false⟩ =
    some (HX.ret, [], [(4, Value.bool c)], [relEf [frz (List.map encO a), frz (List.map encO b), Value.func (Fn.func 44) { toList := [] } { toList := [] }] (Value.bool c)]) := by kernel_rfl

theorem hs_f (b : Bool) : hfin Tryd.prog Tryd.f25 (mkSt [] 0 0) (mkF [(4, .bool b)] 10) [] ⟨[], [], [], 0, 0, false⟩ =
    some (Value.bool b, [], []) := by kernel_rfl

theorem hs_ok (a b : List O) (ha : SmO a) : FnEx Tryd.prog 25 [encH a, encH b] St0 (fun u _ => u = .bool (decide (a = b))) := by
  refine FnEx.enter (n0 := 0) (fn := Tryd.f25) (c := bodyOf Tryd.prog 25) Tryd.func25 (by kernel_rfl) rfl rfl ?_
  have hS : relEf [encOs a, encOs b, fn44] (.bool (decide (a = b))) := ⟨a, b, ha, rfl, rfl⟩
  refine Ex.stepN noGT kEf_ok 99 10 0 0 (hs_a a b (decide (a = b))) rfl (by ((repeat' refine allP.cons ?_ ?_) <;> first | exact allP.nil | assumption | rfl | (exact ⟨by omega, by assumption⟩) | (simp; done) | (simp; omega) | skip)) ?_
  exact FinQ.mk' (.inr rfl) (hs_f (decide (a = b))) rfl .nil rfl
def relHs : Rel := fun args v => ∃ a b : List O, SmO a ∧ args = [encH a, encH b] ∧ v = .bool (decide (a = b))
theorem relHs_ok : ∀ args v, relHs args v → FnEx Tryd.prog 25 args St0 (fun u _ => u = v) := by
  rintro args v ⟨a, b, h, rfl, rfl⟩
  exact hs_ok a b h

end Go.Proofs.MA

namespace Go.Proofs.MA
open Go Go.Hx Go.RowKit Go.Proofs
set_option maxRecDepth 100000

def relSe : Rel := fun args v => ∃ a b : List A3, a.length ≤ 9000000000000000000 ∧ args = [encAs a, encAs b] ∧ v = .bool (decide (a = b))
def kMu : HCall := specK [(24, relSe), (25, relHs)]
theorem kMu_ok : CallOK Tryd.prog kMu := specK_ok fun g rel hm args v h _ _ => by
  simp only [List.mem_cons, Prod.mk.injEq, List.mem_nil_iff, or_false] at hm
  rcases hm with ⟨rfl, rfl⟩ | ⟨rfl, rfl⟩
  · obtain ⟨a, b, h, rfl, rfl⟩ := h
    exact se_ok a b h
  · exact relHs_ok args v h

theorem mu_1 (a b : Ou) : hrun Tryd.prog kMu 5 (pcs Tryd.prog 11) St0 (entF [encOu a, encOu b] 31) (List.replicate 18 false) [[.bool false]] ⟨[], [], [4], 0, 0, false⟩ =
    some (HX.ret, [], [(4, Value.bool false)], [false = false, (false == true) = false, (false == true) = false, (false == true) = false, (false == true) = false, (false == true) = false, false = false, (false == true) = false, (false == true) = false, (false == true) = false, (false == true) = false, (false == true) = false, false = false, (false == true) = false, (false == true) = false, (false == true) = false, (false == true) = false, (false == true) = false, relSe [frz (List.map encA a.fst), frz (List.map encA b.fst)] (Value.bool false)]) := by kernel_rfl

theorem mu_2 (a b : Ou) : hrun Tryd.prog kMu 5 (pcs Tryd.prog 11) St0 (entF [encOu a, encOu b] 31) (List.replicate 6 true ++ List.replicate 12 false) [[.bool true]] ⟨[], [], [4], 0, 0, false⟩ =
    some (HX.ret, [], [(4, Value.bool false)], [false = false, (false == true) = false, (false == true) = false, (false == true) = false, (false == true) = false, (false == true) = false, (a.snd.fst == b.snd.fst) = false, ((a.snd.fst == b.snd.fst) == true) = false, ((a.snd.fst == b.snd.fst) == true) = false, ((a.snd.fst == b.snd.fst) == true) = false, ((a.snd.fst == b.snd.fst) == true) = false, ((a.snd.fst == b.snd.fst) == true) = false, true = true, (true == true) = true, (true == true) = true, (true == true) = true, (true == true) = true, (true == true) = true, relSe [frz (List.map encA a.fst), frz (List.map encA b.fst)] (Value.bool true)]) := by kernel_rfl

theorem mu_3 (a b : Ou) : hrun Tryd.prog kMu 5 (pcs Tryd.prog 11) St0 (entF [encOu a, encOu b] 31) (List.replicate 12 true ++ List.replicate 6 false) [[.bool true]] ⟨[], [], [4], 0, 0, false⟩ =
    some (HX.ret, [], [(4, Value.bool false)], [List.all ([(Value.bool a.snd.snd.fst.fst, Value.bool b.snd.snd.fst.fst)] ++ ([(Value.int IntKind.i64 a.snd.snd.fst.snd, Value.int IntKind.i64 b.snd.snd.fst.snd)] ++ [])) leafEq = false, (List.all ([(Value.bool a.snd.snd.fst.fst, Value.bool b.snd.snd.fst.fst)] ++ ([(Value.int IntKind.i64 a.snd.snd.fst.snd, Value.int IntKind.i64 b.snd.snd.fst.snd)] ++ [])) leafEq == true) = false, (List.all ([(Value.bool a.snd.snd.fst.fst, Value.bool b.snd.snd.fst.fst)] ++ ([(Value.int IntKind.i64 a.snd.snd.fst.snd, Value.int IntKind.i64 b.snd.snd.fst.snd)] ++ [])) leafEq == true) = false, (List.all ([(Value.bool a.snd.snd.fst.fst, Value.bool b.snd.snd.fst.fst)] ++ ([(Value.int IntKind.i64 a.snd.snd.fst.snd, Value.int IntKind.i64 b.snd.snd.fst.snd)] ++ [])) leafEq == true) = false, (List.all ([(Value.bool a.snd.snd.fst.fst, Value.bool b.snd.snd.fst.fst)] ++ ([(Value.int IntKind.i64 a.snd.snd.fst.snd, Value.int IntKind.i64 b.snd.snd.fst.snd)] ++ [])) leafEq == true) = false, (List.all ([(Value.bool a.snd.snd.fst.fst, Value.bool b.snd.snd.fst.fst)] ++ ([(Value.int IntKind.i64 a.snd.snd.fst.snd, Value.int IntKind.i64 b.snd.snd.fst.snd)] ++ [])) leafEq == true) = false, (a.snd.fst == b.snd.fst) = true, ((a.snd.fst == b.snd.fst) == true) = true, ((a.snd.fst == b.snd.fst) == true) = true, ((a.snd.fst == b.snd.fst) == true) = true, ((a.snd.fst == b.snd.fst) == true) = true, ((a.snd.fst == b.snd.fst) == true) = true, true = true, (true == true) = true, (true == true) = true, (true == true) = true, (true == true) = true, (true == true) = true, relSe [frz (List.map encA a.fst), frz (List.map encA b.fst)] (Value.bool true)]) := by kernel_rfl

theorem mu_4 (a b : Ou) (c : Bool) : hrun Tryd.prog kMu 5 (pcs Tryd.prog 11) St0 (entF [encOu a, encOu b] 31) (List.replicate 18 true) [[.bool true], [.bool c]] ⟨[], [], [4], 0, 0, false⟩ =
    some (HX.ret, [], [(4, Value.bool c)], [List.all ([(Value.bool a.snd.snd.fst.fst, Value.bool b.snd.snd.fst.fst)] ++ ([(Value.int IntKind.i64 a.snd.snd.fst.snd, Value.int IntKind.i64 b.snd.snd.fst.snd)] ++ [])) leafEq = true, relHs [Value.agg { toList := [frz (List.map encO a.snd.snd.snd)] }, Value.agg { toList := [frz (List.map encO b.snd.snd.snd)] }] (Value.bool c), (List.all ([(Value.bool a.snd.snd.fst.fst, Value.bool b.snd.snd.fst.fst)] ++ ([(Value.int IntKind.i64 a.snd.snd.fst.snd, Value.int IntKind.i64 b.snd.snd.fst.snd)] ++ [])) leafEq == true) = true, (List.all ([(Value.bool a.snd.snd.fst.fst, Value.bool b.snd.snd.fst.fst)] ++ ([(Value.int IntKind.i64 a.snd.snd.fst.snd, Value.int IntKind.i64 b.snd.snd.fst.snd)] ++ [])) leafEq == true) = true, (List.all ([(Value.bool a.snd.snd.fst.fst, Value.bool b.snd.snd.fst.fst)] ++ ([(Value.int IntKind.i64 a.snd.snd.fst.snd, Value.int IntKind.i64 b.snd.snd.fst.snd)] ++ [])) leafEq == true) = true, (List.all ([(Value.bool a.snd.snd.fst.fst, Value.bool b.snd.snd.fst.fst)] ++ ([(Value.int IntKind.i64 a.snd.snd.fst.snd, Value.int IntKind.i64 b.snd.snd.fst.snd)] ++ [])) leafEq == true) = true, (List.all ([(Value.bool a.snd.snd.fst.fst, Value.bool b.snd.snd.fst.fst)] ++ ([(Value.int IntKind.i64 a.snd.snd.fst.snd, Value.int IntKind.i64 b.snd.snd.fst.snd)] ++ [])) leafEq == true) = true, (a.snd.fst == b.snd.fst) = true, ((a.snd.fst == b.snd.fst) == true) = true, ((a.snd.fst == b.snd.fst) == true) = true, ((a.snd.fst == b.snd.fst) == true) = true, ((a.snd.fst == b.snd.fst) == true) = true, ((a.snd.fst == b.snd.fst) == true) = true, true = true, (true == true) = true, (true == true) = true, (true == true) = true, (true == true) = true, (true == true) = true, relSe [frz (List.map encA a.fst), frz (List.map encA b.fst)] (Value.bool true)]) := by kernel_rfl

theorem mu_f (b : Bool) : hfin Tryd.prog Tryd.f11 (mkSt [] 0 0) (mkF [(4, .bool b)] 31) [] ⟨[], [], [], 0, 0, false⟩ =
    some (Value.bool b, [], []) := by kernel_rfl

theorem mu_ok (a b : Ou) (h1 : a.1.length ≤ 9000000000000000000) (h2 : SmO a.2.2.2) : FnEx Tryd.prog 11 [encOu a, encOu b] St0 (fun u _ => u = .bool (decide (a = b))) := by
  refine FnEx.enter (n0 := 0) (fn := Tryd.f11) (c := bodyOf Tryd.prog 11) Tryd.func11 (by kernel_rfl) rfl rfl ?_
  have hA : relSe [encAs a.1, encAs b.1] (.bool (decide (a.1 = b.1))) := ⟨a.1, b.1, h1, rfl, rfl⟩
  have hH : relHs [encH a.2.2.2, encH b.2.2.2] (.bool (decide (a.2.2.2 = b.2.2.2))) := ⟨_, _, h2, rfl, rfl⟩
  have hV := leafW a.2.2.1 b.2.2.1
  by_cases ha : a.1 = b.1
  · rw [decide_eq_true ha] at hA
    by_cases ht : a.2.1 = b.2.1
    · have ht' : (a.2.1 == b.2.1) = true := by simp [ht]
      by_cases hv : a.2.2.1 = b.2.2.1
      · rw [decide_eq_true hv] at hV
        refine Ex.stepN noGT kMu_ok 99 31 0 0 (mu_4 a b (decide (a.2.2.2 = b.2.2.2))) rfl ?_ ?_
        · (repeat' refine allP.cons ?_ ?_) <;> first | exact allP.nil | assumption | rfl | (rw [hV]; rfl) | (rw [ht']; rfl)
        · refine FinQ.mk' (.inr rfl) (mu_f _) rfl .nil ?_
          congr 1
          simp [Prod.ext_iff, ha, ht]
          intro _
          exact Prod.ext_iff.1 hv
      · rw [decide_eq_false hv] at hV
        refine Ex.stepN noGT kMu_ok 99 31 0 0 (mu_3 a b) rfl ?_ ?_
        · (repeat' refine allP.cons ?_ ?_) <;> first | exact allP.nil | assumption | rfl | (rw [hV]; rfl) | (rw [ht']; rfl)
        · exact FinQ.mk' (.inr rfl) (mu_f _) rfl .nil (by rw [decide_eq_false]; intro h; exact hv (by rw [h]))
    · have ht' : (a.2.1 == b.2.1) = false := by simp [ht]
      refine Ex.stepN noGT kMu_ok 99 31 0 0 (mu_2 a b) rfl ?_ ?_
      · (repeat' refine allP.cons ?_ ?_) <;> first | exact allP.nil | assumption | rfl | (rw [hV]; rfl) | (rw [ht']; rfl)
      · exact FinQ.mk' (.inr rfl) (mu_f _) rfl .nil (by rw [decide_eq_false]; intro h; exact ht (by rw [h]))
  · rw [decide_eq_false ha] at hA
    refine Ex.stepN noGT kMu_ok 99 31 0 0 (mu_1 a b) rfl ?_ ?_
    · (repeat' refine allP.cons ?_ ?_) <;> first | exact allP.nil | assumption | rfl
    · exact FinQ.mk' (.inr rfl) (mu_f _) rfl .nil (by rw [decide_eq_false]; intro h; exact ha (by rw [h]))

end Go.Proofs.MA
