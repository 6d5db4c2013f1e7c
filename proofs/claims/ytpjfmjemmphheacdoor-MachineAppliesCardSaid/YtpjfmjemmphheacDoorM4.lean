/- MachineApplies: the machine: load. Conditions: none. -/
import Derived.Test.YtpjfmjemmphheacDoorM3
import Derived.Test.YtpjfmjemmphheacDoorE8
import Derived.Lib.Walk
import Derived.Below
set_option linter.all false
set_option linter.unusedVariables false
set_option linter.unusedSimpArgs false
namespace Go.Proofs.MA
open Go Go.Hx Go.RowKit Go.Proofs
set_option maxRecDepth 100000

/-! ### Clone -/
theorem eqlN (c : Nat) (w : World) : (binOp .eql 62 (.slice none 0 c) (.slice none 0 0)).run Tryd.prog w = .ok (.bool true) w := rfl
theorem eqlS (a : Addr) (c : Nat) (w : World) : (binOp .eql 62 (.slice (some a) 0 c) (.slice none 0 0)).run Tryd.prog w = .ok (.bool false) w := rfl
theorem u62 : Tryd.prog.underlying 62 = some (.slice 24) := by kernel_rfl
theorem i24 : ∃ i, Tryd.prog.info? 24 = some i := ⟨_, rfl⟩
theorem cl35n (c : Nat) (w : World) : Calls Tryd.prog 35 #[.slice none 0 c] w fun e w' => (∃ a' c', e = .returned (.slice a' 0 c')) ∧ Below w.heap.size w w' := by
  go_enter Tryd.func35, (show Tryd.f35.ntmps = 8 by kernel_rfl)
  go_wp2_with (simp only [eqlN, Result.andThen_ok])
  go_ret
  exact ⟨⟨_, _, rfl⟩, Below.refl _ _⟩
theorem cl35s (a : Addr) (c : Nat) (w : World) : Calls Tryd.prog 35 #[.slice (some a) 0 c] w fun e w' => (∃ a' c', e = .returned (.slice a' 0 c')) ∧ Below w.heap.size w w' := by
  go_enter Tryd.func35, (show Tryd.f35.ntmps = 8 by kernel_rfl)
  go_wp2_with (simp only [eqlS, Result.andThen_ok])
  go_ret
  exact ⟨⟨_, _, rfl⟩, (Below.refl _ _).alloc (Nat.le_refl _) _⟩
theorem cl0_ok (s : St) : FnEx Tryd.prog 35 [frz []] s (fun u t => u = frz [] ∧ t = s) := by
  intro w0 μ w args' hR hV
  cases hV with
  | cons h t =>
  cases t
  have key : ∀ {e : Ending} {w' : World}, ((∃ a' c', e = .returned (.slice a' 0 c')) ∧ Below w.heap.size w w') → ∃ v s' v' ν, (v = frz [] ∧ s' = s) ∧ e = .returned v' ∧ μ.le ν ∧ R w0 ν s' w' ∧ VR ν v v' := by
    rintro e w' ⟨⟨a', c', rfl⟩, hb⟩
    exact ⟨frz [], s, _, μ, ⟨rfl, rfl⟩, rfl, Mu.le_refl _, hR.garbage hb, .frz .frz0⟩
  cases h with
  | iface ht _ => exact absurd ht (by simp [TYM])
  | frz k =>
    cases k with
    | @frz0 a c =>
      cases a with
      | none => exact (cl35n c w).mono fun e w' hq => key hq
      | some a => exact (cl35s a c w).mono fun e w' hq => key hq
    | frz _ hz => exact (cl35s _ _ w).mono fun e w' hq => key hq
/-- Clone, where the slice may be empty: what is empty is answered. -/
def kCl (k : HCall) : HCall := fun g args s => match Nat.beq g 35, args with
  | true, [x] => match isFrz x with
    | some es => match popB (Nat.beq es.length 0) s with
      | some (true, s1) => some (frz [], s1)
      | some (false, s1) => k g args s1
      | none => none
    | none => k g args s
  | _, _ => k g args s
theorem kCl_ok {k : HCall} (hk : CallOK Tryd.prog k) : CallOK Tryd.prog (kCl k) := by
  intro s s' g args v hc
  unfold kCl at hc
  split at hc
  · rename_i x hg
    have hg : g = 35 := (beq_iff _ _).1 hg
    subst hg
    split at hc
    · rename_i es he
      split at hc
      · rename_i s1 hp
        cases hc
        obtain ⟨k1, k2⟩ := popB_like hp
        refine ⟨k1.sub, fun ok w0 μ w args' hR hV => ?_⟩
        have : es = [] := List.eq_nil_of_length_eq_zero ((beq_iff _ _).1 (k2 ok))
        subst this
        rw [isFrz_eq he] at hV
        refine (cl0_ok s w0 μ w args' hR hV).mono fun e w' ⟨u, t, v', ν, k3, k4, k5, k6, k7⟩ => ?_
        obtain ⟨rfl, rfl⟩ := k3
        exact ⟨v', ν, k4, k5, k6.like k1, k7⟩
      · rename_i s1 hp
        obtain ⟨k1, _⟩ := popB_like hp
        obtain ⟨m1, m2⟩ := hk _ _ _ _ _ hc
        exact ⟨St.sub_trans k1.sub m1, fun ok w0 μ w args' hR hV => m2 ok w0 μ w args' (hR.like k1) hV⟩
      · cases hc
    · exact hk _ _ _ _ _ hc
  · exact hk _ _ _ _ _ hc
noncomputable def kIn : HCall := hcall Tryd.prog 5 noK noD 2
theorem kIn_ok : CallOK Tryd.prog kIn := hcall_sound noGT 5 noK_ok noD_ok 2
noncomputable def kLd : HCall := kCl kIn
theorem kLd_ok : CallOK Tryd.prog kLd := kCl_ok kIn_ok

/-- What waits at the caller: its argument, the effect, its result. -/
def parks (os : List O) (e : Eff) : List (Nat × HObj) := [(0, .row false [encOs os] 35), (1, .row false (cellsE e) 33), (2, .row false [.slice none 0 0] 35)]
def ids (l : List Int) : List Value := l.map fun i => .int .i64 i
/-- load's objects: 3 the map, 4 the memory, 5 its order, 6 more. -/
def ldS (os : List O) (e : Eff) (d : List (Int × List Value)) (od mo : Value) (l : List (Nat × HObj)) (n : Nat) : St :=
  mkSt (parks os e ++ [(3, .dmap d 2), (4, .row false [.map (some 3), od, mo] 99)] ++ l) n 0
def ldF (os : List O) (l : List (Nat × Value)) : HF := mkF ([(3, .pointer (some ⟨4, 0, none⟩)), (12, encOs os), (13, .int .i64 os.length)] ++ l) 61

theorem ld_a (os : List O) (e : Eff) : hrun Tryd.prog kIn 5 ((pcs Tryd.prog 19).take 3) (mkSt (parks os e) 3 0) (entF [encH os] 61) [] [] ⟨[(0, 0, false), (1, 1, false), (2, 2, false), (4, 3, false), (5, 4, false)], [], [3, 12, 13, 14], 7, 3, false⟩ =
    some (HX.normal, [(0, HObj.row false [frz (List.map encO os)] 35), (1, HObj.row false (cellsE e) 33), (2, HObj.row false [Value.slice none 0 0] 35), (3, HObj.map [] 0), (4, HObj.row false [Value.map (some 3), Value.slice none 0 0, Value.slice none 0 0] 99)], [(3, Value.pointer (some { block := 4, off := 0 })), (12, frz (List.map encO os)), (13, Value.int IntKind.i64 ↑(List.length (List.map encO os))), (14, Value.int IntKind.i64 0)], []) := by kernel_rfl


def odV (l : List Int) : Value := .slice (some ⟨5, 0, none⟩) l.length (UNK + 1)
def odR (l : List Int) : Nat × HObj := (5, .row true (ids l) 2)
def moV (l : List O) : Value := .slice (some ⟨6, 0, none⟩) l.length (UNK + 2)
def moR (l : List O) : Nat × HObj := (6, .row true (flatV (l.map encO)) 64)

theorem ld_1e (os : List O) (e : Eff) (d : List (Int × List Value)) (o : O) (k m : Int) (l : List Int) (mo : List O) : hrun Tryd.prog kLd 5 (flatC (loopIn (nth (pcs Tryd.prog 19) 3))) (ldS os e d (.slice none 0 0) (.slice none 0 0) [] 7) (ldF os [(14, .int .i64 k)]) [true, false, false, true, false] [[encO o]] ⟨[(0, 0, false), (1, 1, false), (2, 2, false), (3, 3, false), (4, 4, false), (9, 5, true)], [], [3, 12, 13, 14], 7, 3, false⟩ =
    some (HX.normal, [(0, HObj.row false [frz (List.map encO os)] 35), (1, HObj.row false (cellsE e) 33), (2, HObj.row false [Value.slice none 0 0] 35), (3, HObj.dmap (updI d o.fst []) 2), (4, HObj.row false [Value.map (some 3), Value.slice (some { block := 5, off := 0 }) 1 9223372036854775809, Value.slice none 0 0] 99), (5, HObj.row true [Value.int IntKind.i64 o.fst] 2)], [(3, Value.pointer (some { block := 4, off := 0 })), (12, frz (List.map encO os)), (13, Value.int IntKind.i64 ↑(List.length os)), (14, Value.int IntKind.i64 (IntKind.wrap IntKind.i64 (k + 1)))], [(Nat.ble 8 140737488355328 && Nat.ble 1 4611686018427387904) = true, Nat.beq 1 0 = false, Nat.beq (List.length (List.map encV o.snd)) 0 = true, false = false, Option.isSome (lookI d o.fst) = false, 0 ≤ k ∧ (List.map encO os)[Int.toNat k]? = some (Value.agg { toList := [Value.int IntKind.i64 o.fst, frz (List.map encV o.snd)] }), decide (k < ↑(List.length os)) = true]) := by kernel_rfl

theorem ld_1f (os : List O) (e : Eff) (d : List (Int × List Value)) (o : O) (k m : Int) (l : List Int) (mo : List O) : hrun Tryd.prog kLd 5 (flatC (loopIn (nth (pcs Tryd.prog 19) 3))) (ldS os e d (.slice none 0 0) (.slice none 0 0) [] 7) (ldF os [(14, .int .i64 k)]) [true, false, false, false, false, false, false, false] [[encO o]] ⟨[(0, 0, false), (1, 1, false), (2, 2, false), (3, 3, false), (4, 4, false), (11, 5, true)], [], [3, 12, 13, 14], 7, 3, false⟩ =
    some (HX.normal, [(0, HObj.row false [frz (List.map encO os)] 35), (1, HObj.row false (cellsE e) 33), (2, HObj.row false [Value.slice none 0 0] 35), (3, HObj.dmap (updI d o.fst ([] ++ flatV (List.map encV o.snd))) 2), (4, HObj.row false [Value.map (some 3), Value.slice (some { block := 5, off := 0 }) 1 9223372036854775809, Value.slice none 0 0] 99), (5, HObj.row true [Value.int IntKind.i64 o.fst] 2)], [(3, Value.pointer (some { block := 4, off := 0 })), (12, frz (List.map encO os)), (13, Value.int IntKind.i64 ↑(List.length os)), (14, Value.int IntKind.i64 (IntKind.wrap IntKind.i64 (k + 1)))], [(Nat.ble 8 140737488355328 && Nat.ble 1 4611686018427387904) = true, Nat.beq 1 0 = false, (0 + List.length (List.map encV o.snd)) * 2 = List.length ([] ++ flatV (List.map encV o.snd)) ∧ [] ++ flatV (List.map encV o.snd) ≠ [] ∧ (9223372036854775810 < 9223372036854775808 → 0 + List.length (List.map encV o.snd) ≤ 9223372036854775810), Nat.ble (0 + List.length (List.map encV o.snd)) 0 = false, (Nat.ble ((0 + List.length (List.map encV o.snd)) * 16) 140737488355328 && Nat.ble (0 + List.length (List.map encV o.snd)) 4611686018427387904) = true, ∀ (v : Value), v ∈ List.map encV o.snd → Array.size (Value.cells v) = 2, Nat.beq (List.length (List.map encV o.snd)) 0 = false, false = false, (!Nat.beq (List.length (List.map encV o.snd)) 0) = true, Nat.beq (List.length (List.map encV o.snd)) 0 = false, false = false, Option.isSome (lookI d o.fst) = false, 0 ≤ k ∧ (List.map encO os)[Int.toNat k]? = some (Value.agg { toList := [Value.int IntKind.i64 o.fst, frz (List.map encV o.snd)] }), decide (k < ↑(List.length os)) = true]) := by kernel_rfl

theorem ld_2e (os : List O) (e : Eff) (d : List (Int × List Value)) (o : O) (k m : Int) (l : List Int) (mo : List O) : hrun Tryd.prog kLd 5 (flatC (loopIn (nth (pcs Tryd.prog 19) 3))) (ldS os e d (odV l) (.slice none 0 0) [odR l] 7) (ldF os [(14, .int .i64 k)]) [true, false, false, true, false] [[encO o]] ⟨[(0, 0, false), (1, 1, false), (2, 2, false), (3, 3, false), (4, 4, false), (9, 5, true)], [], [3, 12, 13, 14], 7, 3, false⟩ =
    some (HX.normal, [(0, HObj.row false [frz (List.map encO os)] 35), (1, HObj.row false (cellsE e) 33), (2, HObj.row false [Value.slice none 0 0] 35), (3, HObj.dmap (updI d o.fst []) 2), (4, HObj.row false [Value.map (some 3), Value.slice (some { block := 5, off := 0 }) (List.length l + 1) 9223372036854775809, Value.slice none 0 0] 99), (5, HObj.row true (List.map (fun i => Value.int IntKind.i64 i) l ++ [Value.int IntKind.i64 o.fst]) 2)], [(3, Value.pointer (some { block := 4, off := 0 })), (12, frz (List.map encO os)), (13, Value.int IntKind.i64 ↑(List.length os)), (14, Value.int IntKind.i64 (IntKind.wrap IntKind.i64 (k + 1)))], [List.length l * 1 = List.length (List.map (fun i => Value.int IntKind.i64 i) l), (Nat.ble ((List.length l + 1) * 8) 140737488355328 && Nat.ble (List.length l + 1) 4611686018427387904) = true, Nat.beq 1 0 = false, Nat.beq (List.length (List.map encV o.snd)) 0 = true, false = false, Option.isSome (lookI d o.fst) = false, 0 ≤ k ∧ (List.map encO os)[Int.toNat k]? = some (Value.agg { toList := [Value.int IntKind.i64 o.fst, frz (List.map encV o.snd)] }), decide (k < ↑(List.length os)) = true]) := by kernel_rfl

theorem ld_2f (os : List O) (e : Eff) (d : List (Int × List Value)) (o : O) (k m : Int) (l : List Int) (mo : List O) : hrun Tryd.prog kLd 5 (flatC (loopIn (nth (pcs Tryd.prog 19) 3))) (ldS os e d (odV l) (.slice none 0 0) [odR l] 7) (ldF os [(14, .int .i64 k)]) [true, false, false, false, false, false, false, false] [[encO o]] ⟨[(0, 0, false), (1, 1, false), (2, 2, false), (3, 3, false), (4, 4, false), (11, 5, true)], [], [3, 12, 13, 14], 7, 3, false⟩ =
    some (HX.normal, [(0, HObj.row false [frz (List.map encO os)] 35), (1, HObj.row false (cellsE e) 33), (2, HObj.row false [Value.slice none 0 0] 35), (3, HObj.dmap (updI d o.fst ([] ++ flatV (List.map encV o.snd))) 2), (4, HObj.row false [Value.map (some 3), Value.slice (some { block := 5, off := 0 }) (List.length l + 1) 9223372036854775809, Value.slice none 0 0] 99), (5, HObj.row true (List.map (fun i => Value.int IntKind.i64 i) l ++ [Value.int IntKind.i64 o.fst]) 2)], [(3, Value.pointer (some { block := 4, off := 0 })), (12, frz (List.map encO os)), (13, Value.int IntKind.i64 ↑(List.length os)), (14, Value.int IntKind.i64 (IntKind.wrap IntKind.i64 (k + 1)))], [List.length l * 1 = List.length (List.map (fun i => Value.int IntKind.i64 i) l), (Nat.ble ((List.length l + 1) * 8) 140737488355328 && Nat.ble (List.length l + 1) 4611686018427387904) = true, Nat.beq 1 0 = false, (0 + List.length (List.map encV o.snd)) * 2 = List.length ([] ++ flatV (List.map encV o.snd)) ∧ [] ++ flatV (List.map encV o.snd) ≠ [] ∧ (9223372036854775810 < 9223372036854775808 → 0 + List.length (List.map encV o.snd) ≤ 9223372036854775810), Nat.ble (0 + List.length (List.map encV o.snd)) 0 = false, (Nat.ble ((0 + List.length (List.map encV o.snd)) * 16) 140737488355328 && Nat.ble (0 + List.length (List.map encV o.snd)) 4611686018427387904) = true, ∀ (v : Value), v ∈ List.map encV o.snd → Array.size (Value.cells v) = 2, Nat.beq (List.length (List.map encV o.snd)) 0 = false, false = false, (!Nat.beq (List.length (List.map encV o.snd)) 0) = true, Nat.beq (List.length (List.map encV o.snd)) 0 = false, false = false, Option.isSome (lookI d o.fst) = false, 0 ≤ k ∧ (List.map encO os)[Int.toNat k]? = some (Value.agg { toList := [Value.int IntKind.i64 o.fst, frz (List.map encV o.snd)] }), decide (k < ↑(List.length os)) = true]) := by kernel_rfl

theorem ld_3e (os : List O) (e : Eff) (d : List (Int × List Value)) (o : O) (k m : Int) (l : List Int) (mo : List O) : hrun Tryd.prog kLd 5 (flatC (loopIn (nth (pcs Tryd.prog 19) 3))) (ldS os e d (odV l) (moV mo) [odR l, moR mo] 7) (ldF os [(14, .int .i64 k)]) [true, false, false, true, false] [[encO o]] ⟨[(0, 0, false), (1, 1, false), (2, 2, false), (3, 3, false), (4, 4, false), (9, 5, true), (6, 6, true)], [], [3, 12, 13, 14], 7, 3, false⟩ =
    some (HX.normal, [(0, HObj.row false [frz (List.map encO os)] 35), (1, HObj.row false (cellsE e) 33), (2, HObj.row false [Value.slice none 0 0] 35), (3, HObj.dmap (updI d o.fst []) 2), (4, HObj.row false [Value.map (some 3), Value.slice (some { block := 5, off := 0 }) (List.length l + 1) 9223372036854775809, Value.slice (some { block := 6, off := 0 }) (List.length mo) 9223372036854775810] 99), (5, HObj.row true (List.map (fun i => Value.int IntKind.i64 i) l ++ [Value.int IntKind.i64 o.fst]) 2), (6, HObj.row true (flatV (List.map encO mo)) 64)], [(3, Value.pointer (some { block := 4, off := 0 })), (12, frz (List.map encO os)), (13, Value.int IntKind.i64 ↑(List.length os)), (14, Value.int IntKind.i64 (IntKind.wrap IntKind.i64 (k + 1)))], [List.length l * 1 = List.length (List.map (fun i => Value.int IntKind.i64 i) l), (Nat.ble ((List.length l + 1) * 8) 140737488355328 && Nat.ble (List.length l + 1) 4611686018427387904) = true, Nat.beq 1 0 = false, Nat.beq (List.length (List.map encV o.snd)) 0 = true, false = false, Option.isSome (lookI d o.fst) = false, 0 ≤ k ∧ (List.map encO os)[Int.toNat k]? = some (Value.agg { toList := [Value.int IntKind.i64 o.fst, frz (List.map encV o.snd)] }), decide (k < ↑(List.length os)) = true]) := by kernel_rfl

theorem ld_3f (os : List O) (e : Eff) (d : List (Int × List Value)) (o : O) (k m : Int) (l : List Int) (mo : List O) : hrun Tryd.prog kLd 5 (flatC (loopIn (nth (pcs Tryd.prog 19) 3))) (ldS os e d (odV l) (moV mo) [odR l, moR mo] 7) (ldF os [(14, .int .i64 k)]) [true, false, false, false, false, false, false, false] [[encO o]] ⟨[(0, 0, false), (1, 1, false), (2, 2, false), (3, 3, false), (4, 4, false), (11, 5, true), (6, 6, true)], [], [3, 12, 13, 14], 7, 3, false⟩ =
    some (HX.normal, [(0, HObj.row false [frz (List.map encO os)] 35), (1, HObj.row false (cellsE e) 33), (2, HObj.row false [Value.slice none 0 0] 35), (3, HObj.dmap (updI d o.fst ([] ++ flatV (List.map encV o.snd))) 2), (4, HObj.row false [Value.map (some 3), Value.slice (some { block := 5, off := 0 }) (List.length l + 1) 9223372036854775809, Value.slice (some { block := 6, off := 0 }) (List.length mo) 9223372036854775810] 99), (5, HObj.row true (List.map (fun i => Value.int IntKind.i64 i) l ++ [Value.int IntKind.i64 o.fst]) 2), (6, HObj.row true (flatV (List.map encO mo)) 64)], [(3, Value.pointer (some { block := 4, off := 0 })), (12, frz (List.map encO os)), (13, Value.int IntKind.i64 ↑(List.length os)), (14, Value.int IntKind.i64 (IntKind.wrap IntKind.i64 (k + 1)))], [List.length l * 1 = List.length (List.map (fun i => Value.int IntKind.i64 i) l), (Nat.ble ((List.length l + 1) * 8) 140737488355328 && Nat.ble (List.length l + 1) 4611686018427387904) = true, Nat.beq 1 0 = false, (0 + List.length (List.map encV o.snd)) * 2 = List.length ([] ++ flatV (List.map encV o.snd)) ∧ [] ++ flatV (List.map encV o.snd) ≠ [] ∧ (9223372036854775810 < 9223372036854775808 → 0 + List.length (List.map encV o.snd) ≤ 9223372036854775810), Nat.ble (0 + List.length (List.map encV o.snd)) 0 = false, (Nat.ble ((0 + List.length (List.map encV o.snd)) * 16) 140737488355328 && Nat.ble (0 + List.length (List.map encV o.snd)) 4611686018427387904) = true, ∀ (v : Value), v ∈ List.map encV o.snd → Array.size (Value.cells v) = 2, Nat.beq (List.length (List.map encV o.snd)) 0 = false, false = false, (!Nat.beq (List.length (List.map encV o.snd)) 0) = true, Nat.beq (List.length (List.map encV o.snd)) 0 = false, false = false, Option.isSome (lookI d o.fst) = false, 0 ≤ k ∧ (List.map encO os)[Int.toNat k]? = some (Value.agg { toList := [Value.int IntKind.i64 o.fst, frz (List.map encV o.snd)] }), decide (k < ↑(List.length os)) = true]) := by kernel_rfl

theorem ld_2t (os : List O) (e : Eff) (d : List (Int × List Value)) (o : O) (k m : Int) (l : List Int) (mo : List O) : hrun Tryd.prog kLd 5 (flatC (loopIn (nth (pcs Tryd.prog 19) 3))) (ldS os e d (odV l) (.slice none 0 0) [odR l] 7) (ldF os [(14, .int .i64 k)]) [true, true, true, false, false] [[encO o], [.int .i64 m]] ⟨[(0, 0, false), (1, 1, false), (2, 2, false), (3, 3, false), (4, 4, false), (11, 5, true), (9, 6, true)], [], [3, 12, 13, 14], 7, 3, false⟩ =
    some (HX.normal, [(0, HObj.row false [frz (List.map encO os)] 35), (1, HObj.row false (cellsE e) 33), (2, HObj.row false [Value.slice none 0 0] 35), (3, HObj.dmap d 2), (4, HObj.row false [Value.map (some 3), Value.slice (some { block := 5, off := 0 }) (List.length l + 1) 9223372036854775809, Value.slice (some { block := 6, off := 0 }) 1 9223372036854775810] 99), (5, HObj.row true (List.map (fun i => Value.int IntKind.i64 i) l ++ [Value.int IntKind.i64 o.fst]) 2), (6, HObj.row true [Value.int IntKind.i64 o.fst, frz (List.map encV o.snd)] 64)], [(3, Value.pointer (some { block := 4, off := 0 })), (12, frz (List.map encO os)), (13, Value.int IntKind.i64 ↑(List.length os)), (14, Value.int IntKind.i64 (IntKind.wrap IntKind.i64 (k + 1)))], [List.length l * 1 = List.length (List.map (fun i => Value.int IntKind.i64 i) l), (Nat.ble ((List.length l + 1) * 8) 140737488355328 && Nat.ble (List.length l + 1) 4611686018427387904) = true, Nat.beq 1 0 = false, (Nat.ble 32 140737488355328 && Nat.ble 1 4611686018427387904) = true, Nat.beq 1 0 = false, true = true, 0 ≤ m ∧ 0 < 2 ∧ ∃ cs, lookI d o.fst = some cs ∧ List.length cs = Int.toNat m * 2, Option.isSome (lookI d o.fst) = true, 0 ≤ k ∧ (List.map encO os)[Int.toNat k]? = some (Value.agg { toList := [Value.int IntKind.i64 o.fst, frz (List.map encV o.snd)] }), decide (k < ↑(List.length os)) = true]) := by kernel_rfl

theorem ld_3t (os : List O) (e : Eff) (d : List (Int × List Value)) (o : O) (k m : Int) (l : List Int) (mo : List O) : hrun Tryd.prog kLd 5 (flatC (loopIn (nth (pcs Tryd.prog 19) 3))) (ldS os e d (odV l) (moV mo) [odR l, moR mo] 7) (ldF os [(14, .int .i64 k)]) [true, true, true, false, false] [[encO o], [.int .i64 m]] ⟨[(0, 0, false), (1, 1, false), (2, 2, false), (3, 3, false), (4, 4, false), (11, 5, true), (9, 6, true)], [], [3, 12, 13, 14], 7, 3, false⟩ =
    some (HX.normal, [(0, HObj.row false [frz (List.map encO os)] 35), (1, HObj.row false (cellsE e) 33), (2, HObj.row false [Value.slice none 0 0] 35), (3, HObj.dmap d 2), (4, HObj.row false [Value.map (some 3), Value.slice (some { block := 5, off := 0 }) (List.length l + 1) 9223372036854775809, Value.slice (some { block := 6, off := 0 }) (List.length mo + 1) 9223372036854775810] 99), (5, HObj.row true (List.map (fun i => Value.int IntKind.i64 i) l ++ [Value.int IntKind.i64 o.fst]) 2), (6, HObj.row true (flatV (List.map encO mo) ++ [Value.int IntKind.i64 o.fst, frz (List.map encV o.snd)]) 64)], [(3, Value.pointer (some { block := 4, off := 0 })), (12, frz (List.map encO os)), (13, Value.int IntKind.i64 ↑(List.length os)), (14, Value.int IntKind.i64 (IntKind.wrap IntKind.i64 (k + 1)))], [List.length l * 1 = List.length (List.map (fun i => Value.int IntKind.i64 i) l), (Nat.ble ((List.length l + 1) * 8) 140737488355328 && Nat.ble (List.length l + 1) 4611686018427387904) = true, Nat.beq 1 0 = false, List.length mo * 2 = List.length (flatV (List.map encO mo)), (Nat.ble ((List.length mo + 1) * 32) 140737488355328 && Nat.ble (List.length mo + 1) 4611686018427387904) = true, Nat.beq 1 0 = false, true = true, 0 ≤ m ∧ 0 < 2 ∧ ∃ cs, lookI d o.fst = some cs ∧ List.length cs = Int.toNat m * 2, Option.isSome (lookI d o.fst) = true, 0 ≤ k ∧ (List.map encO os)[Int.toNat k]? = some (Value.agg { toList := [Value.int IntKind.i64 o.fst, frz (List.map encV o.snd)] }), decide (k < ↑(List.length os)) = true]) := by kernel_rfl

theorem ld_x1 (os : List O) (e : Eff) (d : List (Int × List Value)) (o : O) (k m : Int) (l : List Int) (mo : List O) : hrun Tryd.prog kLd 5 (flatC (loopIn (nth (pcs Tryd.prog 19) 3))) (ldS os e d (.slice none 0 0) (.slice none 0 0) [] 7) (ldF os [(14, .int .i64 k)]) [false] [] ⟨[(0, 0, false), (1, 1, false), (2, 2, false), (3, 3, false), (4, 4, false)], [], [3], 7, 3, false⟩ =
    some (HX.exit 0, [(0, HObj.row false [frz (List.map encO os)] 35), (1, HObj.row false (cellsE e) 33), (2, HObj.row false [Value.slice none 0 0] 35), (3, HObj.dmap d 2), (4, HObj.row false [Value.map (some 3), Value.slice none 0 0, Value.slice none 0 0] 99)], [(3, Value.pointer (some { block := 4, off := 0 }))], [decide (k < ↑(List.length os)) = false]) := by kernel_rfl

theorem ld_y1 (os : List O) (e : Eff) (d : List (Int × List Value)) (o : O) (k m : Int) (l : List Int) (mo : List O) : hrun Tryd.prog kLd 5 ((pcs Tryd.prog 19).drop 4) (ldS os e d (.slice none 0 0) (.slice none 0 0) [] 7) (mkF [(3, .pointer (some ⟨4, 0, none⟩))] 61) [] [] ⟨[(0, 0, false), (1, 1, false), (2, 2, false), (3, 3, false), (4, 4, false)], [], [2], 7, 3, false⟩ =
    some (HX.ret, [(0, HObj.row false [frz (List.map encO os)] 35), (1, HObj.row false (cellsE e) 33), (2, HObj.row false [Value.slice none 0 0] 35), (3, HObj.dmap d 2), (4, HObj.row false [Value.map (some 3), Value.slice none 0 0, Value.slice none 0 0] 99)], [(2, Value.pointer (some { block := 4, off := 0 }))], []) := by kernel_rfl

theorem ld_z1 (os : List O) (e : Eff) (d : List (Int × List Value)) (o : O) (k m : Int) (l : List Int) (mo : List O) : hfin Tryd.prog Tryd.f19 (ldS os e d (.slice none 0 0) (.slice none 0 0) [] 7) (mkF [(2, .pointer (some ⟨4, 0, none⟩))] 61) [] ⟨[(0, 0, false), (1, 1, false), (2, 2, false), (3, 3, false), (4, 4, false)], [], [], 7, 3, false⟩ =
    some (Value.pointer (some { block := 4, off := 0 }), [(0, HObj.row false [frz (List.map encO os)] 35), (1, HObj.row false (cellsE e) 33), (2, HObj.row false [Value.slice none 0 0] 35), (3, HObj.dmap d 2), (4, HObj.row false [Value.map (some 3), Value.slice none 0 0, Value.slice none 0 0] 99)], []) := by kernel_rfl

theorem ld_x2 (os : List O) (e : Eff) (d : List (Int × List Value)) (o : O) (k m : Int) (l : List Int) (mo : List O) : hrun Tryd.prog kLd 5 (flatC (loopIn (nth (pcs Tryd.prog 19) 3))) (ldS os e d (odV l) (.slice none 0 0) [odR l] 7) (ldF os [(14, .int .i64 k)]) [false] [] ⟨[(0, 0, false), (1, 1, false), (2, 2, false), (3, 3, false), (4, 4, false), (5, 5, true)], [], [3], 7, 3, false⟩ =
    some (HX.exit 0, [(0, HObj.row false [frz (List.map encO os)] 35), (1, HObj.row false (cellsE e) 33), (2, HObj.row false [Value.slice none 0 0] 35), (3, HObj.dmap d 2), (4, HObj.row false [Value.map (some 3), Value.slice (some { block := 5, off := 0 }) (List.length l) 9223372036854775809, Value.slice none 0 0] 99), (5, HObj.row true (List.map (fun i => Value.int IntKind.i64 i) l) 2)], [(3, Value.pointer (some { block := 4, off := 0 }))], [decide (k < ↑(List.length os)) = false]) := by kernel_rfl

theorem ld_y2 (os : List O) (e : Eff) (d : List (Int × List Value)) (o : O) (k m : Int) (l : List Int) (mo : List O) : hrun Tryd.prog kLd 5 ((pcs Tryd.prog 19).drop 4) (ldS os e d (odV l) (.slice none 0 0) [odR l] 7) (mkF [(3, .pointer (some ⟨4, 0, none⟩))] 61) [] [] ⟨[(0, 0, false), (1, 1, false), (2, 2, false), (3, 3, false), (4, 4, false), (5, 5, true)], [], [2], 7, 3, false⟩ =
    some (HX.ret, [(0, HObj.row false [frz (List.map encO os)] 35), (1, HObj.row false (cellsE e) 33), (2, HObj.row false [Value.slice none 0 0] 35), (3, HObj.dmap d 2), (4, HObj.row false [Value.map (some 3), Value.slice (some { block := 5, off := 0 }) (List.length l) 9223372036854775809, Value.slice none 0 0] 99), (5, HObj.row true (List.map (fun i => Value.int IntKind.i64 i) l) 2)], [(2, Value.pointer (some { block := 4, off := 0 }))], []) := by kernel_rfl

theorem ld_z2 (os : List O) (e : Eff) (d : List (Int × List Value)) (o : O) (k m : Int) (l : List Int) (mo : List O) : hfin Tryd.prog Tryd.f19 (ldS os e d (odV l) (.slice none 0 0) [odR l] 7) (mkF [(2, .pointer (some ⟨4, 0, none⟩))] 61) [] ⟨[(0, 0, false), (1, 1, false), (2, 2, false), (3, 3, false), (4, 4, false), (5, 5, true)], [], [], 7, 3, false⟩ =
    some (Value.pointer (some { block := 4, off := 0 }), [(0, HObj.row false [frz (List.map encO os)] 35), (1, HObj.row false (cellsE e) 33), (2, HObj.row false [Value.slice none 0 0] 35), (3, HObj.dmap d 2), (4, HObj.row false [Value.map (some 3), Value.slice (some { block := 5, off := 0 }) (List.length l) 9223372036854775809, Value.slice none 0 0] 99), (5, HObj.row true (List.map (fun i => Value.int IntKind.i64 i) l) 2)], []) := by kernel_rfl

theorem ld_x3 (os : List O) (e : Eff) (d : List (Int × List Value)) (o : O) (k m : Int) (l : List Int) (mo : List O) : hrun Tryd.prog kLd 5 (flatC (loopIn (nth (pcs Tryd.prog 19) 3))) (ldS os e d (odV l) (moV mo) [odR l, moR mo] 7) (ldF os [(14, .int .i64 k)]) [false] [] ⟨[(0, 0, false), (1, 1, false), (2, 2, false), (3, 3, false), (4, 4, false), (5, 5, true), (6, 6, true)], [], [3], 7, 3, false⟩ =
    some (HX.exit 0, [(0, HObj.row false [frz (List.map encO os)] 35), (1, HObj.row false (cellsE e) 33), (2, HObj.row false [Value.slice none 0 0] 35), (3, HObj.dmap d 2), (4, HObj.row false [Value.map (some 3), Value.slice (some { block := 5, off := 0 }) (List.length l) 9223372036854775809, Value.slice (some { block := 6, off := 0 }) (List.length mo) 9223372036854775810] 99), (5, HObj.row true (List.map (fun i => Value.int IntKind.i64 i) l) 2), (6, HObj.row true (flatV (List.map encO mo)) 64)], [(3, Value.pointer (some { block := 4, off := 0 }))], [decide (k < ↑(List.length os)) = false]) := by kernel_rfl

theorem ld_y3 (os : List O) (e : Eff) (d : List (Int × List Value)) (o : O) (k m : Int) (l : List Int) (mo : List O) : hrun Tryd.prog kLd 5 ((pcs Tryd.prog 19).drop 4) (ldS os e d (odV l) (moV mo) [odR l, moR mo] 7) (mkF [(3, .pointer (some ⟨4, 0, none⟩))] 61) [] [] ⟨[(0, 0, false), (1, 1, false), (2, 2, false), (3, 3, false), (4, 4, false), (5, 5, true), (6, 6, true)], [], [2], 7, 3, false⟩ =
    some (HX.ret, [(0, HObj.row false [frz (List.map encO os)] 35), (1, HObj.row false (cellsE e) 33), (2, HObj.row false [Value.slice none 0 0] 35), (3, HObj.dmap d 2), (4, HObj.row false [Value.map (some 3), Value.slice (some { block := 5, off := 0 }) (List.length l) 9223372036854775809, Value.slice (some { block := 6, off := 0 }) (List.length mo) 9223372036854775810] 99), (5, HObj.row true (List.map (fun i => Value.int IntKind.i64 i) l) 2), (6, HObj.row true (flatV (List.map encO mo)) 64)], [(2, Value.pointer (some { block := 4, off := 0 }))], []) := by kernel_rfl

theorem ld_z3 (os : List O) (e : Eff) (d : List (Int × List Value)) (o : O) (k m : Int) (l : List Int) (mo : List O) : hfin Tryd.prog Tryd.f19 (ldS os e d (odV l) (moV mo) [odR l, moR mo] 7) (mkF [(2, .pointer (some ⟨4, 0, none⟩))] 61) [] ⟨[(0, 0, false), (1, 1, false), (2, 2, false), (3, 3, false), (4, 4, false), (5, 5, true), (6, 6, true)], [], [], 7, 3, false⟩ =
    some (Value.pointer (some { block := 4, off := 0 }), [(0, HObj.row false [frz (List.map encO os)] 35), (1, HObj.row false (cellsE e) 33), (2, HObj.row false [Value.slice none 0 0] 35), (3, HObj.dmap d 2), (4, HObj.row false [Value.map (some 3), Value.slice (some { block := 5, off := 0 }) (List.length l) 9223372036854775809, Value.slice (some { block := 6, off := 0 }) (List.length mo) 9223372036854775810] 99), (5, HObj.row true (List.map (fun i => Value.int IntKind.i64 i) l) 2), (6, HObj.row true (flatV (List.map encO mo)) 64)], []) := by kernel_rfl

end Go.Proofs.MA

namespace Go.Proofs.MA
open Go Go.Hx Go.RowKit Go.Proofs
set_option maxRecDepth 100000

/-- A memory as data. -/
structure Me where
  d : List (Int × List V)
  od : List Int
  mo : List O
def flatF (l : List V) : List Value := flatV (l.map encV)
def encD (d : List (Int × List V)) : List (Int × List Value) := d.map fun x => (x.1, flatF x.2)
theorem ixI_map {α β : Type} (g : α → β) : ∀ (d : List (Int × α)) (n : Int) (i : Nat), ixI (d.map fun x => (x.1, g x.2)) n i = ixI d n i
  | [], _, _ => rfl
  | x :: d, n, i => by
    simp only [List.map_cons, ixI]
    rw [ixI_map g d n (i + 1)]
theorem lookI_map {α β : Type} (g : α → β) (d : List (Int × α)) (n : Int) : lookI (d.map fun x => (x.1, g x.2)) n = (lookI d n).map g := by
  unfold lookI
  rw [ixI_map]
  cases ixI d n 0 with
  | none => rfl
  | some j =>
    simp only [Option.bind_some, List.getElem?_map, Option.map_map]
    rfl
theorem updI_map {α β : Type} (g : α → β) (d : List (Int × α)) (n : Int) (x : α) : updI (d.map fun x => (x.1, g x.2)) n (g x) = (updI d n x).map fun x => (x.1, g x.2) := by
  unfold updI
  rw [ixI_map]
  cases ixI d n 0 with
  | none => simp
  | some j => simp [List.map_set]
def load1 (m : Me) (o : O) : Me :=
  if (lookI m.d o.1).isSome then ⟨m.d, m.od ++ [o.1], m.mo ++ [o]⟩ else ⟨updI m.d o.1 o.2, m.od ++ [o.1], m.mo⟩
def loadM (os : List O) : Me := os.foldl load1 ⟨[], [], []⟩

def memS (os : List O) (e : Eff) (m : Me) : St := match m.od, m.mo with
  | [], _ => ldS os e (encD m.d) (.slice none 0 0) (.slice none 0 0) [] 7
  | x :: l, [] => ldS os e (encD m.d) (odV (x :: l)) (.slice none 0 0) [odR (x :: l)] 7
  | x :: l, y :: mo => ldS os e (encD m.d) (odV (x :: l)) (moV (y :: mo)) [odR (x :: l), moR (y :: mo)] 7

theorem flatF_nil {l : List V} (h : l = []) : flatF l = [] := by rw [h]; rfl
theorem ids_len (l : List Int) : l.length * 1 = (List.map (fun i => Value.int IntKind.i64 i) l).length := by simp

theorem load1_od (m : Me) (o : O) : (load1 m o).od = m.od ++ [o.1] := by unfold load1; split <;> rfl
theorem loadM_od (os : List O) : (loadM os).od = os.map (·.1) := by
  have : ∀ (os : List O) (m : Me), (os.foldl load1 m).od = m.od ++ os.map (·.1) := by
    intro os
    induction os with
    | nil => intro m; simp
    | cons o os ih => intro m; rw [List.foldl_cons, ih, load1_od]; simp
  simpa [loadM] using this os ⟨[], [], []⟩
theorem loadM_mo (os : List O) : (loadM os).mo.length ≤ os.length := by
  have : ∀ (os : List O) (m : Me), (os.foldl load1 m).mo.length ≤ m.mo.length + os.length := by
    intro os
    induction os with
    | nil => intro m; simp
    | cons o os ih =>
      intro m
      have h1 := ih (load1 m o)
      have h2 : (load1 m o).mo.length ≤ m.mo.length + 1 := by unfold load1; split <;> simp
      rw [List.foldl_cons, List.length_cons]
      omega
  simpa [loadM] using this os ⟨[], [], []⟩

theorem ld_step (os : List O) (e : Eff) (m : Me) (o : O) (k : Nat) (hk : os[k]? = some o) (hsm : SmV o.2) (hn : m.od = [] → m.d = [] ∧ m.mo = []) (h1 : m.od.length ≤ 100000) (h2 : m.mo.length ≤ 100000)
    {Q : HX → St → HF → Prop} (hQ : Q .normal (memS os e (load1 m o)) (ldF os [(14, .int .i64 (IntKind.wrap IntKind.i64 ((k : Int) + 1)))])) :
    Ex Tryd.prog 3 (flatC (loopIn (nth (pcs Tryd.prog 19) 3))) (memS os e m) (ldF os [(14, .int .i64 k)]) Q := by
  obtain ⟨d, od, mo⟩ := m
  have hlt : k < os.length := by
    rcases Nat.lt_or_ge k os.length with h | h
    · exact h
    · rw [List.getElem?_eq_none h] at hk; cases hk
  have hidx : 0 ≤ ((k : Nat) : Int) ∧ (os.map encO)[((k : Nat) : Int).toNat]? = some (encO o) := ⟨by omega, map_at hk⟩
  have hdec : decide (((k : Nat) : Int) < ((os.length : Nat) : Int)) = true := by simp; omega
  have hfl : (List.map encV o.2).length = o.2.length := List.length_map ..
  have hfs : ∀ v ∈ List.map encV o.2, v.cells.size = 2 := flatV_encV _
  have hlen : (flatV (List.map encV o.2)).length = o.2.length * 2 := flatV_V_len _
  unfold SmV at hsm
  have hlk : ∀ n, lookI (encD d) n = (lookI d n).map flatF := fun n => lookI_map flatF d n
  have hup : ∀ n x, updI (encD d) n (flatF x) = encD (updI d n x) := fun n x => updI_map flatF d n x
  -- not empty
  have c1 : o.2 ≠ [] → (0 + (List.map encV o.2).length) * 2 = ([] ++ flatV (List.map encV o.2)).length ∧ [] ++ flatV (List.map encV o.2) ≠ [] ∧ (9223372036854775810 < 9223372036854775808 → 0 + (List.map encV o.2).length ≤ 9223372036854775810) := by
    intro hne
    refine ⟨by rw [List.nil_append, hlen, hfl]; omega, ?_, fun h => by omega⟩
    intro h0
    rw [List.nil_append] at h0
    rw [h0] at hlen
    have : o.2.length = 0 := by simp at hlen; omega
    exact hne (List.eq_nil_of_length_eq_zero this)
  have c2 : o.2 ≠ [] → Nat.ble (0 + (List.map encV o.2).length) 0 = false := by
    intro hne
    cases hb : Nat.ble (0 + (List.map encV o.2).length) 0 with
    | false => rfl
    | true => exact absurd (List.eq_nil_of_length_eq_zero (by have := ble_le hb; omega)) hne
  have c3 : (Nat.ble ((0 + (List.map encV o.2).length) * 16) 140737488355328 && Nat.ble (0 + (List.map encV o.2).length) 4611686018427387904) = true := apOK (by omega) (by omega)
  have c4 : o.2 ≠ [] → Nat.beq (List.map encV o.2).length 0 = false := fun hne => beqF (by rw [hfl]; intro h; exact hne (List.eq_nil_of_length_eq_zero h))
  have c5 : o.2 ≠ [] → (!Nat.beq (List.map encV o.2).length 0) = true := fun hne => by rw [c4 hne]; rfl
  have c6 : o.2 = [] → Nat.beq (List.map encV o.2).length 0 = true := fun h => by rw [h]; rfl
  cases od with
  | nil =>
    obtain ⟨hd, hmo⟩ := hn rfl
    simp only at hd hmo
    subst hd hmo
    have hl1 : load1 ⟨[], [], []⟩ o = ⟨[(o.1, o.2)], [o.1], []⟩ := rfl
    rw [hl1] at hQ
    by_cases hfe : o.2 = []
    · refine Ex.stepN noGT kLd_ok 99 61 0 7 (ld_1e os e (encD []) o k 0 [] []) rfl (.cons rfl (.cons rfl (.cons (c6 hfe) (.cons rfl (.cons rfl (.cons hidx (.cons hdec .nil))))))) ?_
      refine Ex.nil ?_
      have : updI (encD []) o.1 [] = encD [(o.1, o.2)] := by rw [hfe]; rfl
      rw [this]
      exact hQ
    · refine Ex.stepN noGT kLd_ok 99 61 0 7 (ld_1f os e (encD []) o k 0 [] []) rfl (.cons rfl (.cons rfl (.cons (c1 hfe) (.cons (c2 hfe) (.cons c3 (.cons hfs (.cons (c4 hfe) (.cons rfl (.cons (c5 hfe) (.cons (c4 hfe) (.cons rfl (.cons rfl (.cons hidx (.cons hdec .nil)))))))))))))) ?_
      exact Ex.nil hQ
  | cons x l =>
    simp only at h1 h2
    have b1 := ids_len (x :: l)
    have b2 : (Nat.ble (((x :: l).length + 1) * 8) 140737488355328 && Nat.ble ((x :: l).length + 1) 4611686018427387904) = true := apOK (by omega) (by omega)
    cases hf : lookI d o.1 with
    | none =>
      have hl1 : load1 ⟨d, x :: l, mo⟩ o = ⟨updI d o.1 o.2, (x :: l) ++ [o.1], mo⟩ := by unfold load1; rw [hf]; rfl
      rw [hl1] at hQ
      have hL : (lookI (encD d) o.1).isSome = false := by rw [hlk, hf]; rfl
      have hids : List.map (fun i => Value.int IntKind.i64 i) (x :: l) ++ [Value.int IntKind.i64 o.1] = ids (x :: l ++ [o.1]) := by simp [ids]
      cases mo with
      | nil =>
        by_cases hfe : o.2 = []
        · refine Ex.stepN noGT kLd_ok 99 61 0 7 (ld_2e os e (encD d) o k 0 (x :: l) []) rfl (.cons b1 (.cons b2 (.cons rfl (.cons (c6 hfe) (.cons rfl (.cons hL (.cons hidx (.cons hdec .nil)))))))) ?_
          refine Ex.nil ?_
          have : updI (encD d) o.1 [] = encD (updI d o.1 o.2) := by rw [← hup, hfe]; rfl
          rw [this, hids]
          have h9 : (x :: l).length + 1 = (x :: l ++ [o.1]).length := by simp
          rw [h9]
          exact hQ
        · refine Ex.stepN noGT kLd_ok 99 61 0 7 (ld_2f os e (encD d) o k 0 (x :: l) []) rfl (.cons b1 (.cons b2 (.cons rfl (.cons (c1 hfe) (.cons (c2 hfe) (.cons c3 (.cons hfs (.cons (c4 hfe) (.cons rfl (.cons (c5 hfe) (.cons (c4 hfe) (.cons rfl (.cons hL (.cons hidx (.cons hdec .nil))))))))))))))) ?_
          refine Ex.nil ?_
          have : updI (encD d) o.1 ([] ++ flatV (List.map encV o.2)) = encD (updI d o.1 o.2) := hup o.1 o.2
          rw [this, hids]
          have h9 : (x :: l).length + 1 = (x :: l ++ [o.1]).length := by simp
          rw [h9]
          exact hQ
      | cons y mo =>
        by_cases hfe : o.2 = []
        · refine Ex.stepN noGT kLd_ok 99 61 0 7 (ld_3e os e (encD d) o k 0 (x :: l) (y :: mo)) rfl (.cons b1 (.cons b2 (.cons rfl (.cons (c6 hfe) (.cons rfl (.cons hL (.cons hidx (.cons hdec .nil)))))))) ?_
          refine Ex.nil ?_
          have : updI (encD d) o.1 [] = encD (updI d o.1 o.2) := by rw [← hup, hfe]; rfl
          rw [this, hids]
          have h9 : (x :: l).length + 1 = (x :: l ++ [o.1]).length := by simp
          rw [h9]
          exact hQ
        · refine Ex.stepN noGT kLd_ok 99 61 0 7 (ld_3f os e (encD d) o k 0 (x :: l) (y :: mo)) rfl (.cons b1 (.cons b2 (.cons rfl (.cons (c1 hfe) (.cons (c2 hfe) (.cons c3 (.cons hfs (.cons (c4 hfe) (.cons rfl (.cons (c5 hfe) (.cons (c4 hfe) (.cons rfl (.cons hL (.cons hidx (.cons hdec .nil))))))))))))))) ?_
          refine Ex.nil ?_
          have : updI (encD d) o.1 ([] ++ flatV (List.map encV o.2)) = encD (updI d o.1 o.2) := hup o.1 o.2
          rw [this, hids]
          have h9 : (x :: l).length + 1 = (x :: l ++ [o.1]).length := by simp
          rw [h9]
          exact hQ
    | some fs =>
      have hl1 : load1 ⟨d, x :: l, mo⟩ o = ⟨d, (x :: l) ++ [o.1], mo ++ [o]⟩ := by unfold load1; rw [hf]; rfl
      rw [hl1] at hQ
      have hL : (lookI (encD d) o.1).isSome = true := by rw [hlk, hf]; rfl
      have hids : List.map (fun i => Value.int IntKind.i64 i) (x :: l) ++ [Value.int IntKind.i64 o.1] = ids (x :: l ++ [o.1]) := by simp [ids]
      have hS : 0 ≤ ((fs.length : Nat) : Int) ∧ 0 < 2 ∧ ∃ cs, lookI (encD d) o.1 = some cs ∧ cs.length = ((fs.length : Nat) : Int).toNat * 2 := ⟨by omega, by omega, flatF fs, by rw [hlk, hf]; rfl, by rw [show (flatF fs).length = fs.length * 2 from flatV_V_len _]; simp⟩
      have h9 : (x :: l).length + 1 = (x :: l ++ [o.1]).length := by simp
      cases mo with
      | nil =>
        refine Ex.stepN noGT kLd_ok 99 61 0 7 (ld_2t os e (encD d) o k fs.length (x :: l) []) rfl (.cons b1 (.cons b2 (.cons rfl (.cons rfl (.cons rfl (.cons rfl (.cons hS (.cons hL (.cons hidx (.cons hdec .nil)))))))))) ?_
        refine Ex.nil ?_
        rw [hids, h9]
        exact hQ
      | cons y mo =>
        have b3 : (y :: mo).length * 2 = (flatV (List.map encO (y :: mo))).length := by rw [flatV_O_len]
        have b4 : (Nat.ble (((y :: mo).length + 1) * 32) 140737488355328 && Nat.ble ((y :: mo).length + 1) 4611686018427387904) = true := apOK (by omega) (by omega)
        refine Ex.stepN noGT kLd_ok 99 61 0 7 (ld_3t os e (encD d) o k fs.length (x :: l) (y :: mo)) rfl (.cons b1 (.cons b2 (.cons rfl (.cons b3 (.cons b4 (.cons rfl (.cons rfl (.cons hS (.cons hL (.cons hidx (.cons hdec .nil))))))))))) ?_
        refine Ex.nil ?_
        have h8 : flatV (List.map encO (y :: mo)) ++ [Value.int IntKind.i64 o.1, encFs o.2] = flatV ((y :: mo ++ [o]).map encO) := by rw [List.map_append, flatV_app]; rfl
        have h7 : (y :: mo).length + 1 = (y :: mo ++ [o]).length := by simp
        have h8' : flatV (List.map encO (y :: mo)) ++ [Value.int IntKind.i64 o.1, frz (List.map encV o.2)] = flatV ((y :: mo ++ [o]).map encO) := h8
        rw [hids, h9, h8', h7]
        exact hQ

theorem load1_emp {m : Me} {o : O} : (load1 m o).od ≠ [] := by rw [load1_od]; simp
theorem loadM_snoc (p : List O) (o : O) : loadM (p ++ [o]) = load1 (loadM p) o := by simp [loadM]
theorem loadM_nil (p : List O) (h : (loadM p).od = []) : p = [] := by
  rw [loadM_od] at h
  simpa using h

theorem ld_l3 : (pcs Tryd.prog 19).drop 3 = .block 0 (.loop (loopIn (nth (pcs Tryd.prog 19) 3))) :: (pcs Tryd.prog 19).drop 4 := by kernel_rfl
theorem ld_turn (os : List O) (e : Eff) : Turn (mkSt (parks os e ++ [(3, .map [] 0), (4, .row false [.map (some 3), .slice none 0 0, .slice none 0 0] 99)]) 7 0) (ldS os e [] (.slice none 0 0) (.slice none 0 0) [] 7) :=
  turn_dmap (i := 3) (k := 0) (z := 2) (by kernel_rfl) (by kernel_rfl) rfl rfl

/-- At the end of the loop. -/
theorem ld_end (os : List O) (e : Eff) (m : Me) (k : Nat) (hk : k = os.length) (hn : m.od = [] → m.mo = []) {Q : HX → St → HF → Prop}
    (hQ : Q (.exit 0) (memS os e m) (mkF [(3, .pointer (some ⟨4, 0, none⟩))] 61)) :
    Ex Tryd.prog 3 (flatC (loopIn (nth (pcs Tryd.prog 19) 3))) (memS os e m) (ldF os [(14, .int .i64 k)]) Q := by
  obtain ⟨d, od, mo⟩ := m
  have hdec : decide (((k : Nat) : Int) < ((os.length : Nat) : Int)) = false := by simp; omega
  cases od with
  | nil =>
    obtain rfl : mo = [] := hn rfl
    exact Ex.stepN noGT kLd_ok 99 61 0 7 (ld_x1 os e (encD d) (0, []) k 0 [] []) rfl (.cons hdec .nil) hQ
  | cons x l =>
    cases mo with
    | nil => exact Ex.stepN noGT kLd_ok 99 61 0 7 (ld_x2 os e (encD d) (0, []) k 0 (x :: l) []) rfl (.cons hdec .nil) hQ
    | cons y mo => exact Ex.stepN noGT kLd_ok 99 61 0 7 (ld_x3 os e (encD d) (0, []) k 0 (x :: l) (y :: mo)) rfl (.cons hdec .nil) hQ

/-- Behind the loop. -/
theorem ld_fin (os : List O) (e : Eff) (m : Me) (hn : m.od = [] → m.mo = []) :
    Ex Tryd.prog 3 ((pcs Tryd.prog 19).drop 4) (memS os e m) (mkF [(3, .pointer (some ⟨4, 0, none⟩))] 61) (FinQ Tryd.prog Tryd.f19 3 (fun u t => u = .pointer (some ⟨4, 0, none⟩) ∧ t = memS os e m)) := by
  obtain ⟨d, od, mo⟩ := m
  cases od with
  | nil =>
    obtain rfl : mo = [] := hn rfl
    exact Ex.stepN noGT kLd_ok 99 61 0 7 (ld_y1 os e (encD d) (0, []) 0 0 [] []) rfl .nil (FinQ.mk' (.inr rfl) (ld_z1 os e (encD d) (0, []) 0 0 [] []) rfl .nil ⟨rfl, rfl⟩)
  | cons x l =>
    cases mo with
    | nil => exact Ex.stepN noGT kLd_ok 99 61 0 7 (ld_y2 os e (encD d) (0, []) 0 0 (x :: l) []) rfl .nil (FinQ.mk' (.inr rfl) (ld_z2 os e (encD d) (0, []) 0 0 (x :: l) []) rfl .nil ⟨rfl, rfl⟩)
    | cons y mo => exact Ex.stepN noGT kLd_ok 99 61 0 7 (ld_y3 os e (encD d) (0, []) 0 0 (x :: l) (y :: mo)) rfl .nil (FinQ.mk' (.inr rfl) (ld_z3 os e (encD d) (0, []) 0 0 (x :: l) (y :: mo)) rfl .nil ⟨rfl, rfl⟩)

theorem ld_ok (os : List O) (e : Eff) (hl : SmO os) : FnEx Tryd.prog 19 [encH os] (mkSt (parks os e) 3 0) (fun u t => u = .pointer (some ⟨4, 0, none⟩) ∧ t = memS os e (loadM os)) := by
  have hsz := hl.1
  refine FnEx.enter (n0 := 3) (fn := Tryd.f19) (c := bodyOf Tryd.prog 19) Tryd.func19 (by kernel_rfl) rfl rfl ?_
  show Ex _ _ (pcs Tryd.prog 19) _ _ _
  refine Ex.stepN noGT kIn_ok 3 61 0 7 (ld_a os e) rfl .nil ?_
  show Ex Tryd.prog 3 ((pcs Tryd.prog 19).drop 3) _ _ _
  refine Ex.turn (ld_turn os e) ?_
  rw [ld_l3, show (List.map encO os).length = os.length from List.length_map ..]
  have emp : ∀ p : List O, (loadM p).od = [] → (loadM p).d = [] ∧ (loadM p).mo = [] := fun p h => by
    rw [loadM_nil p h]
    exact ⟨rfl, rfl⟩
  refine Ex.loop (fun m s f => ∃ p q, os = p ++ q ∧ q.length = m ∧ s = memS os e (loadM p) ∧ f = ldF os [(14, .int .i64 p.length)]) ?_ ⟨[], os, rfl, rfl, rfl, rfl⟩
  rintro m s f ⟨p, q, hos, hm, rfl, rfl⟩
  cases q with
  | nil =>
    have hp : os = p := by simpa using hos
    refine ld_end os e (loadM p) p.length (by rw [hp]) (fun h => (emp p h).2) ?_
    refine rndQ.out ?_
    have := ld_fin os e (loadM p) (fun h => (emp p h).2)
    rw [hp] at this ⊢
    exact this
  | cons o q =>
    have hk : os[p.length]? = some o := by rw [hos]; exact at_split p o q
    have hlt : p.length < os.length := by rw [hos]; simp
    have hmo := loadM_mo p
    refine ld_step os e (loadM p) o p.length hk (hl.2 o (by rw [hos]; simp)) (emp p) (by rw [loadM_od]; simp; omega) (by omega) ?_
    refine ⟨m - 1, by simp at hm; omega, p ++ [o], q, by simp [hos], by simp at hm; omega, ?_, ?_⟩
    · rw [loadM_snoc]
    · have hw : IntKind.wrap IntKind.i64 ((p.length : Int) + 1) = ((p ++ [o]).length : Int) := by
        rw [IntWalk.i64_in _ (by omega)]; simp
      rw [hw]

end Go.Proofs.MA
