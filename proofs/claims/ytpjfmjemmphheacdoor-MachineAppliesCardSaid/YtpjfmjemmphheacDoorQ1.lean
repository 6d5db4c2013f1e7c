/- MachineApplies: copies. Conditions: none. -/
import Derived.Test.YtpjfmjemmphheacDoorM5
import Derived.Test.YtpjfmjemmphheacDoorP3
set_option linter.all false
set_option linter.unusedVariables false
set_option linter.unusedSimpArgs false
namespace Go.Proofs.MA
open Go Go.Hx Go.RowKit Go.Proofs
set_option maxRecDepth 100000

/-! ### Values -/
theorem kv_a (fs : List V) : hrun Tryd.prog noK 5 (pcs Tryd.prog 33) St0 (entF [encFs fs] 5) [true] [] ⟨[], [], [2], 0, 0, true⟩ =
    some (HX.ret, [], [(2, frz ([]))], [Nat.beq (List.length (List.map encV fs)) 0 = true]) := by kernel_rfl

theorem kv_b (fs : List V) : hrun Tryd.prog noK 5 (pcs Tryd.prog 33) St0 (entF [encFs fs] 5) [false, false, false] [] ⟨[(0, 0, true)], [], [2], 1, 0, false⟩ =
    some (HX.ret, [(0, HObj.row true (flatV (List.map encV fs)) 24)], [(2, Value.slice (some { block := 0, off := 0 }) (List.length (List.map encV fs)) 9223372036854775810)], [(Nat.ble ((0 + List.length (List.map encV fs)) * 16) 140737488355328 && Nat.ble (0 + List.length (List.map encV fs)) 4611686018427387904) = true, ∀ (v : Value), v ∈ List.map encV fs → Array.size (Value.cells v) = 2, Nat.beq (List.length (List.map encV fs)) 0 = false]) := by kernel_rfl

theorem kv_f (fs : List V) : hfin Tryd.prog Tryd.f33 (mkSt [(0, .row true (flatV (fs.map encV)) 24)] 1 0) (mkF [(2, .slice (some ⟨0, 0, none⟩) (fs.map encV).length (UNK + 2))] 5) [] ⟨[], [(0, 2, fs.map encV)], [], 0, 0, false⟩ =
    some (frz (List.map encV fs), [], [flatV (List.map encV fs) = flatV (List.map encV fs) ∧ (∀ (v : Value), v ∈ List.map encV fs → Array.size (Value.cells v) = 2) ∧ 0 < 2, List.length (List.map encV fs) = List.length (List.map encV fs)]) := by kernel_rfl

theorem kv_g (fs : List V) : hfin Tryd.prog Tryd.f33 (mkSt [] 0 0) (mkF [(2, frz [])] 5) [] ⟨[], [], [], 0, 0, false⟩ =
    some (frz ([]), [], []) := by kernel_rfl

/-! ### Objects -/
def kKo : HCall := specK [(33, relCl)]
def koF (l : List (Nat × Value)) : HF := mkF l 24
def koV (n : Nat) : Value := .slice (some ⟨0, 0, none⟩) n (UNK + 2)
def koS (cs : List Value) : St := mkSt [(0, .row true cs 64)] 1 0

theorem ko_a (os : List O) : hrun Tryd.prog noK 5 ((pcs Tryd.prog 17).take 3) St0 (entF [encOs os] 24) [true] [] ⟨[], [], [3, 8, 9], 0, 0, true⟩ =
    some (HX.normal, [], [(3, frz ([])), (8, Value.int IntKind.i64 ↑0), (9, Value.int IntKind.i64 0)], [Nat.beq (List.length (List.map encO os)) 0 = true]) := by kernel_rfl

theorem ko_b (os : List O) : hrun Tryd.prog noK 5 ((pcs Tryd.prog 17).take 3) St0 (entF [encOs os] 24) [false, false, false] [] ⟨[(0, 0, true)], [], [3, 8, 9], 1, 0, false⟩ =
    some (HX.normal, [(0, HObj.row true (flatV (List.map encO os)) 64)], [(3, Value.slice (some { block := 0, off := 0 }) (List.length (List.map encO os)) 9223372036854775810), (8, Value.int IntKind.i64 ↑(List.length (List.map encO os))), (9, Value.int IntKind.i64 0)], [(Nat.ble ((0 + List.length (List.map encO os)) * 32) 140737488355328 && Nat.ble (0 + List.length (List.map encO os)) 4611686018427387904) = true, ∀ (v : Value), v ∈ List.map encO os → Array.size (Value.cells v) = 2, Nat.beq (List.length (List.map encO os)) 0 = false]) := by kernel_rfl

theorem ko_xa (k : Int) : hrun Tryd.prog noK 5 (flatC (loopIn (nth (pcs Tryd.prog 17) 3))) St0 (koF [(3, frz []), (8, .int .i64 ((0 : Nat) : Int)), (9, .int .i64 0)]) [false] [] ⟨[], [], [3], 0, 0, false⟩ =
    some (HX.exit 0, [], [(3, frz ([]))], [decide ((0 : Int) < ((0 : Nat) : Int)) = false]) := by kernel_rfl

theorem ko_xb (cs : List Value) (n : Nat) (k : Int) : hrun Tryd.prog noK 5 (flatC (loopIn (nth (pcs Tryd.prog 17) 3))) (koS cs) (koF [(3, koV n), (8, .int .i64 n), (9, .int .i64 k)]) [false] [] ⟨[(0, 0, true)], [], [3], 1, 0, false⟩ =
    some (HX.exit 0, [(0, HObj.row true cs 64)], [(3, Value.slice (some { block := 0, off := 0 }) n 9223372036854775810)], [decide (k < ↑n) = false]) := by kernel_rfl

theorem ko_r (cs : List Value) (n : Nat) (k : Int) (fs : List V) : hrun Tryd.prog kKo 5 (flatC (loopIn (nth (pcs Tryd.prog 17) 3))) (koS cs) (koF [(3, koV n), (8, .int .i64 n), (9, .int .i64 k)]) [true] [[encFs fs], [encFs fs]] ⟨[(0, 0, true)], [], [3, 8, 9], 1, 0, false⟩ =
    some (HX.normal, [(0, HObj.row true (List.take (0 + Int.toNat k * 2 + 1) cs ++ [frz (List.map encV fs)] ++ List.drop (0 + Int.toNat k * 2 + 1 + 1) cs) 64)], [(3, Value.slice (some { block := 0, off := 0 }) n 9223372036854775810), (8, Value.int IntKind.i64 ↑n), (9, Value.int IntKind.i64 (IntKind.wrap IntKind.i64 (k + 1)))], [0 + Int.toNat k * 2 + 1 + 1 ≤ List.length cs, (decide (0 ≤ k) && decide (k < ↑n)) = true, relCl [frz (List.map encV fs)] (frz (List.map encV fs)), 0 + Int.toNat k * 2 + 1 + 1 ≤ List.length cs ∧ List.take 1 (List.drop (0 + Int.toNat k * 2 + 1) cs) = [frz (List.map encV fs)], (decide (0 ≤ k) && decide (k < ↑n)) = true, decide (k < ↑n) = true]) := by kernel_rfl

theorem ko_ea (k : Int) : hrun Tryd.prog noK 5 ((pcs Tryd.prog 17).drop 4) St0 (koF [(3, frz [])]) [] [] ⟨[], [], [2], 0, 0, false⟩ =
    some (HX.ret, [], [(2, frz ([]))], []) := by kernel_rfl

theorem ko_eb (cs : List Value) (n : Nat) : hrun Tryd.prog noK 5 ((pcs Tryd.prog 17).drop 4) (koS cs) (koF [(3, koV n)]) [] [] ⟨[(0, 0, true)], [], [2], 1, 0, false⟩ =
    some (HX.ret, [(0, HObj.row true cs 64)], [(2, Value.slice (some { block := 0, off := 0 }) n 9223372036854775810)], []) := by kernel_rfl

theorem ko_fa (k : Int) : hfin Tryd.prog Tryd.f17 St0 (mkF [(2, frz [])] 24) [] ⟨[], [], [], 0, 0, false⟩ =
    some (frz ([]), [], []) := by kernel_rfl

theorem ko_fb (cs : List Value) (n : Nat) (os : List O) : hfin Tryd.prog Tryd.f17 (koS cs) (mkF [(2, koV n)] 24) [] ⟨[], [(0, 2, os.map encO)], [], 0, 0, false⟩ =
    some (frz (List.map encO os), [], [flatV (List.map encO os) = cs ∧ (∀ (v : Value), v ∈ List.map encO os → Array.size (Value.cells v) = 2) ∧ 0 < 2, n = List.length (List.map encO os)]) := by kernel_rfl

/-! ### Heap -/
def relKo : Rel := fun args v => ∃ os : List O, SmO os ∧ args = [encOs os] ∧ v = encOs os
def kKh : HCall := specK [(17, relKo)]

theorem kh_a (os : List O) : hrun Tryd.prog kKh 5 (pcs Tryd.prog 7) St0 (entF [encH os] 7) [] [[encOs os]] ⟨[(1, 0, false)], [], [2], 1, 0, false⟩ =
    some (HX.ret, [(0, HObj.row false [frz (List.map encO os)] 35)], [(2, Value.pointer (some { block := 0, off := 0 }))], [relKo [frz (List.map encO os)] (frz (List.map encO os))]) := by kernel_rfl

theorem kh_f (os : List O) : hfin Tryd.prog Tryd.f7 (mkSt [(0, .row false [encOs os] 35)] 1 0) (mkF [(2, .pointer (some ⟨0, 0, none⟩))] 7) [] ⟨[], [], [], 0, 0, false⟩ =
    some (Value.agg { toList := [frz (List.map encO os)] }, [], []) := by kernel_rfl

end Go.Proofs.MA

namespace Go.Proofs.MA
open Go Go.Hx Go.RowKit Go.Proofs
set_option maxRecDepth 100000

theorem kv_ok (fs : List V) (h : SmV fs) : FnEx Tryd.prog 33 [encFs fs] St0 (fun u _ => u = encFs fs) := by
  unfold SmV at h
  have hfl : (List.map encV fs).length = fs.length := List.length_map ..
  refine FnEx.enter (n0 := 0) (fn := Tryd.f33) (c := bodyOf Tryd.prog 33) Tryd.func33 (by kernel_rfl) rfl rfl ?_
  by_cases hf : fs = []
  · subst hf
    refine Ex.stepN noGT noK_ok 99 5 0 0 (kv_a []) rfl (.cons rfl .nil) ?_
    exact FinQ.mk' (.inr rfl) (kv_g []) rfl .nil rfl
  · have h0 : fs.length ≠ 0 := fun h => hf (List.eq_nil_of_length_eq_zero h)
    refine Ex.stepN noGT noK_ok 99 5 0 1 (kv_b fs) rfl (.cons (apOK (by omega) (by omega)) (.cons (flatV_encV _) (.cons (beqF (by rw [hfl]; exact h0)) .nil))) ?_
    exact FinQ.mk' (.inr rfl) (kv_f fs) rfl (.cons ⟨rfl, flatV_encV _, by omega⟩ (.cons rfl .nil)) rfl
theorem kKo_ok : CallOK Tryd.prog kKo := specK_ok fun g rel hm args v h _ _ => by
  simp only [List.mem_cons, Prod.mk.injEq, List.mem_nil_iff, or_false] at hm
  obtain ⟨rfl, rfl⟩ := hm
  obtain ⟨fs, h1, rfl, rfl⟩ := h
  exact kv_ok fs h1

theorem cs_split (p q : List O) (o : O) : flatV ((p ++ o :: q).map encO) = (flatV (p.map encO) ++ [.int .i64 o.1]) ++ encFs o.2 :: flatV (q.map encO) := by
  rw [List.map_append, flatV_app]
  show flatV (p.map encO) ++ (.int .i64 o.1 :: encFs o.2 :: flatV (q.map encO)) = _
  simp
theorem ko_l3 : (pcs Tryd.prog 17).drop 3 = .block 0 (.loop (loopIn (nth (pcs Tryd.prog 17) 3))) :: (pcs Tryd.prog 17).drop 4 := by kernel_rfl

theorem ko_ok (os : List O) (h : SmO os) : FnEx Tryd.prog 17 [encOs os] St0 (fun u _ => u = encOs os) := by
  have hl := h.1
  have hen : (List.map encO os).length = os.length := List.length_map ..
  refine FnEx.enter (n0 := 0) (fn := Tryd.f17) (c := bodyOf Tryd.prog 17) Tryd.func17 (by kernel_rfl) rfl rfl ?_
  show Ex _ _ (pcs Tryd.prog 17) _ _ _
  by_cases hf : os = []
  · subst hf
    refine Ex.stepN noGT noK_ok 3 24 0 0 (ko_a []) rfl (.cons rfl .nil) ?_
    show Ex _ _ ((pcs Tryd.prog 17).drop 3) _ _ _
    rw [ko_l3]
    refine Ex.loop (fun m s f => s = St0 ∧ f = koF [(3, frz []), (8, .int .i64 ((0 : Nat) : Int)), (9, .int .i64 0)]) ?_ (m := 0) ⟨rfl, rfl⟩
    rintro m s f ⟨rfl, rfl⟩
    refine Ex.stepN noGT noK_ok 99 24 0 0 (ko_xa 0) rfl (.cons rfl .nil) ?_
    refine goOn.out ?_
    refine Ex.stepN noGT noK_ok 99 24 0 0 (ko_ea 0) rfl .nil ?_
    exact FinQ.mk' (.inr rfl) (ko_fa 0) rfl .nil rfl
  · have h0 : os.length ≠ 0 := fun h => hf (List.eq_nil_of_length_eq_zero h)
    refine Ex.stepN noGT noK_ok 3 24 0 1 (ko_b os) rfl (.cons (apOK (by omega) (by omega)) (.cons (flatV_encO _) (.cons (beqF (by rw [hen]; exact h0)) .nil))) ?_
    show Ex _ _ ((pcs Tryd.prog 17).drop 3) _ _ _
    rw [ko_l3, hen]
    refine Ex.loop (fun m s f => ∃ p q, os = p ++ q ∧ q.length = m ∧ s = koS (flatV (os.map encO)) ∧ f = koF [(3, koV os.length), (8, .int .i64 os.length), (9, .int .i64 p.length)]) ?_ ⟨[], os, rfl, rfl, rfl, rfl⟩
    rintro m s f ⟨p, q, hos, hm, rfl, rfl⟩
    cases q with
    | nil =>
      have hp : os = p := by simpa using hos
      refine Ex.stepN noGT noK_ok 99 24 0 1 (ko_xb _ os.length p.length) rfl (.cons (by rw [← hp]; simp) .nil) ?_
      refine goOn.out ?_
      refine Ex.stepN noGT noK_ok 99 24 0 1 (ko_eb _ os.length) rfl .nil ?_
      exact FinQ.mk' (.inr rfl) (ko_fb _ os.length os) rfl (.cons ⟨rfl, flatV_encO _, by omega⟩ (.cons hen.symm .nil)) rfl
    | cons o q =>
      have hlt : p.length < os.length := by rw [hos]; simp
      have hv : SmV o.2 := h.2 o (by rw [hos]; simp)
      have hL : (flatV (p.map encO) ++ [Value.int .i64 o.1]).length = 0 + ((p.length : Nat) : Int).toNat * 2 + 1 := by rw [List.length_append, flatV_O_len]; simp
      have hcl : (flatV (os.map encO)).length = os.length * 2 := flatV_O_len os
      have hle : 0 + ((p.length : Nat) : Int).toNat * 2 + 1 + 1 ≤ (flatV (os.map encO)).length := by rw [hcl]; omega
      have hsp : flatV (os.map encO) = (flatV (p.map encO) ++ [.int .i64 o.1]) ++ encFs o.2 :: flatV (q.map encO) := by rw [hos]; exact cs_split p q o
      have hin : (decide (0 ≤ ((p.length : Nat) : Int)) && decide (((p.length : Nat) : Int) < ((os.length : Nat) : Int))) = true := by simp; omega
      have hd : decide (((p.length : Nat) : Int) < ((os.length : Nat) : Int)) = true := by simp; omega
      have hrd : List.take 1 (List.drop (0 + ((p.length : Nat) : Int).toNat * 2 + 1) (flatV (os.map encO))) = [encFs o.2] := by
        rw [hsp, ← hL, List.drop_left]; rfl
      have hwr : List.take (0 + ((p.length : Nat) : Int).toNat * 2 + 1) (flatV (os.map encO)) ++ [encFs o.2] ++ List.drop (0 + ((p.length : Nat) : Int).toNat * 2 + 1 + 1) (flatV (os.map encO)) = flatV (os.map encO) := by
        have e1 : List.take (0 + ((p.length : Nat) : Int).toNat * 2 + 1) (flatV (os.map encO)) = flatV (p.map encO) ++ [.int .i64 o.1] := by rw [hsp, ← hL, List.take_left]
        have e2 : List.drop (0 + ((p.length : Nat) : Int).toNat * 2 + 1 + 1) (flatV (os.map encO)) = flatV (q.map encO) := by
          rw [← List.drop_drop, hsp, ← hL, List.drop_left]; rfl
        rw [e1, e2, hsp]
        simp
      refine Ex.stepN noGT kKo_ok 99 24 0 1 (ko_r (flatV (os.map encO)) os.length p.length o.2) rfl (.cons hle (.cons hin (.cons ⟨o.2, hv, rfl, rfl⟩ (.cons ⟨hle, hrd⟩ (.cons hin (.cons hd .nil)))))) ?_
      refine Ex.nil ⟨m - 1, by simp at hm; omega, p ++ [o], q, by simp [hos], by simp at hm; omega, ?_, ?_⟩
      · show mkSt [(0, .row true (List.take (0 + ((p.length : Nat) : Int).toNat * 2 + 1) (flatV (os.map encO)) ++ [encFs o.2] ++ List.drop (0 + ((p.length : Nat) : Int).toNat * 2 + 1 + 1) (flatV (os.map encO))) 64)] 1 0 = _
        rw [hwr]; rfl
      · have hw : IntKind.wrap IntKind.i64 ((p.length : Int) + 1) = ((p ++ [o]).length : Int) := by
          rw [IntWalk.i64_in _ (by omega)]; simp
        rw [hw]; rfl
theorem kKh_ok : CallOK Tryd.prog kKh := specK_ok fun g rel hm args v h _ _ => by
  simp only [List.mem_cons, Prod.mk.injEq, List.mem_nil_iff, or_false] at hm
  obtain ⟨rfl, rfl⟩ := hm
  obtain ⟨os, h1, rfl, rfl⟩ := h
  exact ko_ok os h1
theorem kh_ok (os : List O) (h : SmO os) : FnEx Tryd.prog 7 [encH os] St0 (fun u _ => u = encH os) := by
  refine FnEx.enter (n0 := 0) (fn := Tryd.f7) (c := bodyOf Tryd.prog 7) Tryd.func7 (by kernel_rfl) rfl rfl ?_
  refine Ex.stepN noGT kKh_ok 99 7 0 1 (kh_a os) rfl (.cons ⟨os, h, rfl, rfl⟩ .nil) ?_
  exact FinQ.mk' (.inr rfl) (kh_f os) rfl .nil rfl
def relKh : Rel := fun args v => ∃ os : List O, SmO os ∧ args = [encH os] ∧ v = encH os
theorem relKh_ok : ∀ args v, relKh args v → FnEx Tryd.prog 7 args St0 (fun u _ => u = v) := by
  rintro args v ⟨os, h, rfl, rfl⟩
  exact kh_ok os h
end Go.Proofs.MA
