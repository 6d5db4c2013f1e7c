/- MachineApplies: the first loop of apply. Conditions: none. -/
import Derived.Test.YtpjfmjemmphheacDoorM7
set_option linter.all false
set_option linter.unusedVariables false
set_option linter.unusedSimpArgs false
namespace Go.Proofs.MA
open Go Go.Hx Go.RowKit Go.Proofs
set_option maxRecDepth 100000

/-! ### Insert in the middle, answered -/
def insR (s s1 : St) (ko n : Nat) (cs : List Value) : Option (Value × St) := match Tr.set 64 s.h ko .dead with
  | some t1 => (Tr.set 64 t1 s.next (.row true cs 2)).map fun t2 => (.slice (some ⟨s.next, 0, none⟩) (n + 1) (UNK + 1), { s1 with h := t2, next := s.next + 1 })
  | none => none
def insK : HCall := fun g args s => match Nat.beq g 38, args with
  | true, [.slice (some ⟨ko, o1, none⟩) n c, .int k i, .slice (some ⟨kv, o2, none⟩) n2 c2] => match s.h.get ko, s.h.get kv with
    | some (.row true cs e), some (.row false [.int k2 x] e') =>
      bif Nat.beq o1 0 && Nat.beq o2 0 && Nat.beq n2 1 && Nat.beq c2 1 && Nat.beq e 2 && Nat.beq e' 2 && Nat.beq c (UNK + 1) && !(Nat.beq ko kv) && !(Nat.beq ko s.next) && decide (k = .i64) && decide (k2 = .i64) then
        match needP (0 ≤ i ∧ ∃ l : List Int, cs = ids l ∧ n = l.length ∧ i.toNat < l.length ∧ l.length ≤ 100000) s with
        | some s1 => insR s s1 ko n (cs.take i.toNat ++ .int .i64 x :: cs.drop i.toNat)
        | none => none
      else none
    | _, _ => none
  | _, _ => none
theorem beq_ne {a b : Nat} (h : (!(Nat.beq a b)) = true) : a ≠ b := fun e => by
  rw [(beq_iff a b).2 e] at h; cases h
theorem insK_ok : CallOK Tryd.prog insK := by
  intro s s' g args v hc
  unfold insK at hc
  split at hc
  · rename_i ko o1 n c k i kv o2 n2 c2 hg
    have hg : g = 38 := (beq_iff _ _).1 hg
    subst hg
    split at hc
    · rename_i cs e k2 x e' h1 h2
      obtain ⟨hb, hc2⟩ := bif_some hc
      clear hc
      have hc := hc2; clear hc2
      simp only [Bool.and_eq_true, decide_eq_true_eq, beq_iff] at hb
      obtain ⟨⟨⟨⟨⟨⟨⟨⟨⟨⟨rfl, rfl⟩, rfl⟩, rfl⟩, rfl⟩, rfl⟩, rfl⟩, hne⟩, hnx⟩, rfl⟩, rfl⟩ := hb
      obtain ⟨s1, hn, hc⟩ : ∃ s1, needP (0 ≤ i ∧ ∃ l : List Int, cs = ids l ∧ n = l.length ∧ i.toNat < l.length ∧ l.length ≤ 100000) s = some s1 ∧ insR s s1 ko n (cs.take i.toNat ++ .int .i64 x :: cs.drop i.toNat) = some (v, s') := by
        split at hc
        · rename_i s1 hn; exact ⟨s1, hn, hc⟩
        · cases hc
      unfold insR at hc
      obtain ⟨t1, ht1, hc⟩ : ∃ t1, Tr.set 64 s.h ko .dead = some t1 ∧ (Tr.set 64 t1 s.next (.row true (cs.take i.toNat ++ .int .i64 x :: cs.drop i.toNat) 2)).map (fun t2 => (Value.slice (some ⟨s.next, 0, none⟩) (n + 1) (UNK + 1), { s1 with h := t2, next := s.next + 1 })) = some (v, s') := by
        split at hc
        · rename_i t1 ht1; exact ⟨t1, ht1, hc⟩
        · cases hc
      · simp only [Option.map_eq_some_iff, Prod.mk.injEq] at hc
        obtain ⟨t2, ht2, rfl, rfl⟩ := hc
        obtain ⟨k1, k3⟩ := needP_like hn
        refine ⟨St.sub_trans k1.sub ⟨[], rfl⟩, fun ok w0 μ w args' hR hV => ?_⟩
        obtain ⟨hi0, l, rfl, rfl, hil, hl⟩ := k3 (fun p hp => ok p hp)
        have hcs : (ids l).take i.toNat ++ .int .i64 x :: (ids l).drop i.toNat = ids (insI l i.toNat x) := by simp [ids, insI]
        rw [hcs] at ht2
        have hin : (i.toNat : Int) = i := by omega
        have := ins_fn (s := s) (s' := { s with h := t2, next := s.next + 1 }) (i := i.toNat) h1 h2 hil hl (beq_ne hne) (beq_ne hnx) ht1 ht2 rfl rfl w0 μ w args' hR (by rw [hin]; exact hV)
        refine this.mono fun e w' ⟨u, t, v', ν, m1, m2, m3, m4, m5⟩ => ?_
        obtain ⟨rfl, rfl⟩ := m1
        exact ⟨v', ν, m2, m3, m4.same rfl rfl k1.ng, m5⟩
    · cases hc
  · cases hc

noncomputable def kAe (l : List SpecS) : HCall := orK (specS l) (kCl kIn)
noncomputable def kAm (l : List SpecS) : HCall := orK (specS l) (orK insK (kCl kIn))
def ayS (os : List O) (e : Eff) (d : List (Int × List Value)) (od : Value) (mo : List O) (ol : List (Nat × HObj)) : St := memT os e (.dmap d 2) od (encOs mo) (ol ++ [effR e]) 10
def ayF (e : Eff) (k : Int) : HF := mkF [(0, .pointer (some ⟨4, 0, none⟩)), (3, .pointer (some ⟨7, 0, none⟩)), (14, encOs e.nw), (15, .int .i64 e.nw.length), (16, .int .i64 k)] 106
def ixT (os : List O) (e : Eff) (d : List (Int × List Value)) (od : Value) (mo : List O) (ol : List (Nat × HObj)) (o : O) (j : Int) : SpecS := (36, [od, fnV], ixS os e d od mo ol o, .int .i64 j, ixS os e d od mo ol o)

/-! ### The first loop -/
theorem ay_Fe (os : List O) (e : Eff) (d : List (Int × List Value)) (l : List Int) (mo : List O) (o : O) (k j m : Int) : hrun Tryd.prog (kAe []) 5 (flatC (loopIn (nth (pcs Tryd.prog 20) 2))) (ayS os e d (odW l) mo [odQ l]) (ayF e k) [true, true, false, true] [[encO o], [.int .i64 m]] ⟨[(0, 0, false), (1, 1, false), (2, 2, false), (3, 3, false), (4, 4, false), (7, 7, false), (9, 9, true)], [], [0, 3, 14, 15, 16], 10, 7, false⟩ =
    some (HX.normal, [(0, HObj.row false [frz (List.map encO os)] 35), (1, HObj.row false (cellsE e) 33), (2, HObj.row false [Value.slice none 0 0] 35), (3, HObj.dmap (updI d o.fst []) 2), (4, HObj.row false [Value.map (some 3), Value.slice (some { block := 9, off := 0 }) (List.length l) 9223372036854775809, frz (List.map encO mo)] 99), (7, HObj.row false (cellsE e) 33), (9, HObj.row true (List.map (fun i => Value.int IntKind.i64 i) l) 2)], [(0, Value.pointer (some { block := 4, off := 0 })), (3, Value.pointer (some { block := 7, off := 0 })), (14, frz (List.map encO e.nw)), (15, Value.int IntKind.i64 ↑(List.length e.nw)), (16, Value.int IntKind.i64 (IntKind.wrap IntKind.i64 (k + 1)))], [Nat.beq (List.length (List.map encV o.snd)) 0 = true, (!true) = false, 0 ≤ m ∧ 0 < 2 ∧ ∃ cs, lookI d o.fst = some cs ∧ List.length cs = Int.toNat m * 2, Option.isSome (lookI d o.fst) = true, 0 ≤ k ∧ (List.map encO e.nw)[Int.toNat k]? = some (Value.agg { toList := [Value.int IntKind.i64 o.fst, frz (List.map encV o.snd)] }), decide (k < ↑(List.length e.nw)) = true]) := by kernel_rfl

theorem ay_Ff (os : List O) (e : Eff) (d : List (Int × List Value)) (l : List Int) (mo : List O) (o : O) (k j m : Int) : hrun Tryd.prog (kAe []) 5 (flatC (loopIn (nth (pcs Tryd.prog 20) 2))) (ayS os e d (odW l) mo [odQ l]) (ayF e k) [true, true, false, false, false, false, false] [[encO o], [.int .i64 m]] ⟨[(0, 0, false), (1, 1, false), (2, 2, false), (3, 3, false), (4, 4, false), (7, 7, false), (9, 9, true)], [], [0, 3, 14, 15, 16], 10, 7, false⟩ =
    some (HX.normal, [(0, HObj.row false [frz (List.map encO os)] 35), (1, HObj.row false (cellsE e) 33), (2, HObj.row false [Value.slice none 0 0] 35), (3, HObj.dmap (updI d o.fst ([] ++ flatV (List.map encV o.snd))) 2), (4, HObj.row false [Value.map (some 3), Value.slice (some { block := 9, off := 0 }) (List.length l) 9223372036854775809, frz (List.map encO mo)] 99), (7, HObj.row false (cellsE e) 33), (9, HObj.row true (List.map (fun i => Value.int IntKind.i64 i) l) 2)], [(0, Value.pointer (some { block := 4, off := 0 })), (3, Value.pointer (some { block := 7, off := 0 })), (14, frz (List.map encO e.nw)), (15, Value.int IntKind.i64 ↑(List.length e.nw)), (16, Value.int IntKind.i64 (IntKind.wrap IntKind.i64 (k + 1)))], [(0 + List.length (List.map encV o.snd)) * 2 = List.length ([] ++ flatV (List.map encV o.snd)) ∧ [] ++ flatV (List.map encV o.snd) ≠ [] ∧ (9223372036854775810 < 9223372036854775808 → 0 + List.length (List.map encV o.snd) ≤ 9223372036854775810), Nat.ble (0 + List.length (List.map encV o.snd)) 0 = false, (Nat.ble ((0 + List.length (List.map encV o.snd)) * 16) 140737488355328 && Nat.ble (0 + List.length (List.map encV o.snd)) 4611686018427387904) = true, ∀ (v : Value), v ∈ List.map encV o.snd → Array.size (Value.cells v) = 2, Nat.beq (List.length (List.map encV o.snd)) 0 = false, false = false, (!Nat.beq (List.length (List.map encV o.snd)) 0) = true, Nat.beq (List.length (List.map encV o.snd)) 0 = false, (!true) = false, 0 ≤ m ∧ 0 < 2 ∧ ∃ cs, lookI d o.fst = some cs ∧ List.length cs = Int.toNat m * 2, Option.isSome (lookI d o.fst) = true, 0 ≤ k ∧ (List.map encO e.nw)[Int.toNat k]? = some (Value.agg { toList := [Value.int IntKind.i64 o.fst, frz (List.map encV o.snd)] }), decide (k < ↑(List.length e.nw)) = true]) := by kernel_rfl

theorem ay_Ne (os : List O) (e : Eff) (d : List (Int × List Value)) (l : List Int) (mo : List O) (o : O) (k j m : Int) : hrun Tryd.prog (kAe [ixT os e d (.slice none 0 0) mo [] o (-1)]) 5 (flatC (loopIn (nth (pcs Tryd.prog 20) 2))) (ayS os e d (.slice none 0 0) mo []) (ayF e k) [true, false, true, true, false, true, false, true] [[encO o]] ⟨[(0, 0, false), (1, 1, false), (2, 2, false), (3, 3, false), (4, 4, false), (7, 7, false), (12, 9, true)], [], [0, 3, 14, 15, 16], 10, 7, false⟩ =
    some (HX.normal, [(0, HObj.row false [frz (List.map encO os)] 35), (1, HObj.row false (cellsE e) 33), (2, HObj.row false [Value.slice none 0 0] 35), (3, HObj.dmap (updI d o.fst []) 2), (4, HObj.row false [Value.map (some 3), Value.slice (some { block := 9, off := 0 }) 1 9223372036854775809, frz (List.map encO mo)] 99), (7, HObj.row false (cellsE e) 33), (9, HObj.row true [Value.int IntKind.i64 o.fst] 2)], [(0, Value.pointer (some { block := 4, off := 0 })), (3, Value.pointer (some { block := 7, off := 0 })), (14, frz (List.map encO e.nw)), (15, Value.int IntKind.i64 ↑(List.length e.nw)), (16, Value.int IntKind.i64 (IntKind.wrap IntKind.i64 (k + 1)))], [Nat.beq (List.length (List.map encV o.snd)) 0 = true, (Nat.ble 8 140737488355328 && Nat.ble 1 4611686018427387904) = true, Nat.beq 1 0 = false, (((0 : Nat) : Int) == ((0 : Nat) : Int)) = true, (((1 : Nat) : Int) == 0) = false, (posO (some ↑0) && Nat.ble 0 0) = true, decide ((-1 : Int) < 0) = true, [Value.slice none 0 0, Value.func (Fn.func 37) { toList := [] } { toList := [Value.pointer (some { block := 10, off := 0 })] }] = [Value.slice none 0 0, Value.func (Fn.func 37) { toList := [] } { toList := [Value.pointer (some { block := 10, off := 0 })] }] ∧ Tr.nd (some (HObj.row false [frz (List.map encO os)] 35)) (Tr.nd (some (HObj.row false (cellsE e) 33)) (Tr.nd (some (HObj.dmap d 2)) (Tr.nd (some (HObj.row false (cellsE e) 33)) Tr.lf Tr.lf) Tr.lf) Tr.lf) (Tr.nd (some (HObj.row false [Value.slice none 0 0] 35)) (Tr.nd (some (HObj.row false [Value.map (some 3), Value.slice none 0 0, frz (List.map encO mo)] 99)) Tr.lf Tr.lf) (Tr.nd none (Tr.nd (some (HObj.row false [Value.int IntKind.i64 o.fst, frz (List.map encV o.snd)] 64)) Tr.lf Tr.lf) Tr.lf)) = Tr.nd (some (HObj.row false [frz (List.map encO os)] 35)) (Tr.nd (some (HObj.row false (cellsE e) 33)) (Tr.nd (some (HObj.dmap d 2)) (Tr.nd (some (HObj.row false (cellsE e) 33)) Tr.lf Tr.lf) Tr.lf) Tr.lf) (Tr.nd (some (HObj.row false [Value.slice none 0 0] 35)) (Tr.nd (some (HObj.row false [Value.map (some 3), Value.slice none 0 0, frz (List.map encO mo)] 99)) Tr.lf Tr.lf) (Tr.nd none (Tr.nd (some (HObj.row false [Value.int IntKind.i64 o.fst, frz (List.map encV o.snd)] 64)) Tr.lf Tr.lf) Tr.lf)) ∧ 11 = 11 ∧ 0 = 0, (!false) = true, Option.isSome (lookI d o.fst) = false, 0 ≤ k ∧ (List.map encO e.nw)[Int.toNat k]? = some (Value.agg { toList := [Value.int IntKind.i64 o.fst, frz (List.map encV o.snd)] }), decide (k < ↑(List.length e.nw)) = true]) := by kernel_rfl

theorem ay_Nf (os : List O) (e : Eff) (d : List (Int × List Value)) (l : List Int) (mo : List O) (o : O) (k j m : Int) : hrun Tryd.prog (kAe [ixT os e d (.slice none 0 0) mo [] o (-1)]) 5 (flatC (loopIn (nth (pcs Tryd.prog 20) 2))) (ayS os e d (.slice none 0 0) mo []) (ayF e k) [true, false, true, true, false, true, false, false, false, false, false] [[encO o]] ⟨[(0, 0, false), (1, 1, false), (2, 2, false), (3, 3, false), (4, 4, false), (7, 7, false), (12, 9, true)], [], [0, 3, 14, 15, 16], 10, 7, false⟩ =
    some (HX.normal, [(0, HObj.row false [frz (List.map encO os)] 35), (1, HObj.row false (cellsE e) 33), (2, HObj.row false [Value.slice none 0 0] 35), (3, HObj.dmap (updI d o.fst ([] ++ flatV (List.map encV o.snd))) 2), (4, HObj.row false [Value.map (some 3), Value.slice (some { block := 9, off := 0 }) 1 9223372036854775809, frz (List.map encO mo)] 99), (7, HObj.row false (cellsE e) 33), (9, HObj.row true [Value.int IntKind.i64 o.fst] 2)], [(0, Value.pointer (some { block := 4, off := 0 })), (3, Value.pointer (some { block := 7, off := 0 })), (14, frz (List.map encO e.nw)), (15, Value.int IntKind.i64 ↑(List.length e.nw)), (16, Value.int IntKind.i64 (IntKind.wrap IntKind.i64 (k + 1)))], [(0 + List.length (List.map encV o.snd)) * 2 = List.length ([] ++ flatV (List.map encV o.snd)) ∧ [] ++ flatV (List.map encV o.snd) ≠ [] ∧ (9223372036854775810 < 9223372036854775808 → 0 + List.length (List.map encV o.snd) ≤ 9223372036854775810), Nat.ble (0 + List.length (List.map encV o.snd)) 0 = false, (Nat.ble ((0 + List.length (List.map encV o.snd)) * 16) 140737488355328 && Nat.ble (0 + List.length (List.map encV o.snd)) 4611686018427387904) = true, ∀ (v : Value), v ∈ List.map encV o.snd → Array.size (Value.cells v) = 2, Nat.beq (List.length (List.map encV o.snd)) 0 = false, false = false, (!Nat.beq (List.length (List.map encV o.snd)) 0) = true, Nat.beq (List.length (List.map encV o.snd)) 0 = false, (Nat.ble 8 140737488355328 && Nat.ble 1 4611686018427387904) = true, Nat.beq 1 0 = false, (((0 : Nat) : Int) == ((0 : Nat) : Int)) = true, (((1 : Nat) : Int) == 0) = false, (posO (some ↑0) && Nat.ble 0 0) = true, decide ((-1 : Int) < 0) = true, [Value.slice none 0 0, Value.func (Fn.func 37) { toList := [] } { toList := [Value.pointer (some { block := 10, off := 0 })] }] = [Value.slice none 0 0, Value.func (Fn.func 37) { toList := [] } { toList := [Value.pointer (some { block := 10, off := 0 })] }] ∧ Tr.nd (some (HObj.row false [frz (List.map encO os)] 35)) (Tr.nd (some (HObj.row false (cellsE e) 33)) (Tr.nd (some (HObj.dmap d 2)) (Tr.nd (some (HObj.row false (cellsE e) 33)) Tr.lf Tr.lf) Tr.lf) Tr.lf) (Tr.nd (some (HObj.row false [Value.slice none 0 0] 35)) (Tr.nd (some (HObj.row false [Value.map (some 3), Value.slice none 0 0, frz (List.map encO mo)] 99)) Tr.lf Tr.lf) (Tr.nd none (Tr.nd (some (HObj.row false [Value.int IntKind.i64 o.fst, frz (List.map encV o.snd)] 64)) Tr.lf Tr.lf) Tr.lf)) = Tr.nd (some (HObj.row false [frz (List.map encO os)] 35)) (Tr.nd (some (HObj.row false (cellsE e) 33)) (Tr.nd (some (HObj.dmap d 2)) (Tr.nd (some (HObj.row false (cellsE e) 33)) Tr.lf Tr.lf) Tr.lf) Tr.lf) (Tr.nd (some (HObj.row false [Value.slice none 0 0] 35)) (Tr.nd (some (HObj.row false [Value.map (some 3), Value.slice none 0 0, frz (List.map encO mo)] 99)) Tr.lf Tr.lf) (Tr.nd none (Tr.nd (some (HObj.row false [Value.int IntKind.i64 o.fst, frz (List.map encV o.snd)] 64)) Tr.lf Tr.lf) Tr.lf)) ∧ 11 = 11 ∧ 0 = 0, (!false) = true, Option.isSome (lookI d o.fst) = false, 0 ≤ k ∧ (List.map encO e.nw)[Int.toNat k]? = some (Value.agg { toList := [Value.int IntKind.i64 o.fst, frz (List.map encV o.snd)] }), decide (k < ↑(List.length e.nw)) = true]) := by kernel_rfl

theorem ay_Ee (os : List O) (e : Eff) (d : List (Int × List Value)) (l : List Int) (mo : List O) (o : O) (k j m : Int) : hrun Tryd.prog (kAe [ixT os e d (odW l) mo [odQ l] o (-1)]) 5 (flatC (loopIn (nth (pcs Tryd.prog 20) 2))) (ayS os e d (odW l) mo [odQ l]) (ayF e k) [true, false, true, true, false, true, false, true] [[encO o]] ⟨[(0, 0, false), (1, 1, false), (2, 2, false), (3, 3, false), (4, 4, false), (7, 7, false), (12, 9, true)], [], [0, 3, 14, 15, 16], 10, 7, false⟩ =
    some (HX.normal, [(0, HObj.row false [frz (List.map encO os)] 35), (1, HObj.row false (cellsE e) 33), (2, HObj.row false [Value.slice none 0 0] 35), (3, HObj.dmap (updI d o.fst []) 2), (4, HObj.row false [Value.map (some 3), Value.slice (some { block := 9, off := 0 }) (List.length l + 1) 9223372036854775809, frz (List.map encO mo)] 99), (7, HObj.row false (cellsE e) 33), (9, HObj.row true (List.map (fun i => Value.int IntKind.i64 i) l ++ [Value.int IntKind.i64 o.fst]) 2)], [(0, Value.pointer (some { block := 4, off := 0 })), (3, Value.pointer (some { block := 7, off := 0 })), (14, frz (List.map encO e.nw)), (15, Value.int IntKind.i64 ↑(List.length e.nw)), (16, Value.int IntKind.i64 (IntKind.wrap IntKind.i64 (k + 1)))], [Nat.beq (List.length (List.map encV o.snd)) 0 = true, List.length l * 1 = List.length (List.map (fun i => Value.int IntKind.i64 i) l), (Nat.ble ((List.length l + 1) * 8) 140737488355328 && Nat.ble (List.length l + 1) 4611686018427387904) = true, Nat.beq 1 0 = false, ((l.length : Int) == (l.length : Int)) = true, (((1 : Nat) : Int) == 0) = false, (posO (some ↑(List.length l)) && Nat.ble (Option.getD (Option.map Int.toNat (some ↑(List.length l))) 0) (List.length l)) = true, decide ((-1 : Int) < 0) = true, [Value.slice (some { block := 9, off := 0 }) (List.length l) 9223372036854775809, Value.func (Fn.func 37) { toList := [] } { toList := [Value.pointer (some { block := 10, off := 0 })] }] = [Value.slice (some { block := 9, off := 0 }) (List.length l) 9223372036854775809, Value.func (Fn.func 37) { toList := [] } { toList := [Value.pointer (some { block := 10, off := 0 })] }] ∧ Tr.nd (some (HObj.row false [frz (List.map encO os)] 35)) (Tr.nd (some (HObj.row false (cellsE e) 33)) (Tr.nd (some (HObj.dmap d 2)) (Tr.nd (some (HObj.row false (cellsE e) 33)) Tr.lf Tr.lf) Tr.lf) (Tr.nd none (Tr.nd (some (HObj.row true (List.map (fun i => Value.int IntKind.i64 i) l) 2)) Tr.lf Tr.lf) Tr.lf)) (Tr.nd (some (HObj.row false [Value.slice none 0 0] 35)) (Tr.nd (some (HObj.row false [Value.map (some 3), Value.slice (some { block := 9, off := 0 }) (List.length l) 9223372036854775809, frz (List.map encO mo)] 99)) Tr.lf Tr.lf) (Tr.nd none (Tr.nd (some (HObj.row false [Value.int IntKind.i64 o.fst, frz (List.map encV o.snd)] 64)) Tr.lf Tr.lf) Tr.lf)) = Tr.nd (some (HObj.row false [frz (List.map encO os)] 35)) (Tr.nd (some (HObj.row false (cellsE e) 33)) (Tr.nd (some (HObj.dmap d 2)) (Tr.nd (some (HObj.row false (cellsE e) 33)) Tr.lf Tr.lf) Tr.lf) (Tr.nd none (Tr.nd (some (HObj.row true (List.map (fun i => Value.int IntKind.i64 i) l) 2)) Tr.lf Tr.lf) Tr.lf)) (Tr.nd (some (HObj.row false [Value.slice none 0 0] 35)) (Tr.nd (some (HObj.row false [Value.map (some 3), Value.slice (some { block := 9, off := 0 }) (List.length l) 9223372036854775809, frz (List.map encO mo)] 99)) Tr.lf Tr.lf) (Tr.nd none (Tr.nd (some (HObj.row false [Value.int IntKind.i64 o.fst, frz (List.map encV o.snd)] 64)) Tr.lf Tr.lf) Tr.lf)) ∧ 11 = 11 ∧ 0 = 0, (!false) = true, Option.isSome (lookI d o.fst) = false, 0 ≤ k ∧ (List.map encO e.nw)[Int.toNat k]? = some (Value.agg { toList := [Value.int IntKind.i64 o.fst, frz (List.map encV o.snd)] }), decide (k < ↑(List.length e.nw)) = true]) := by kernel_rfl

theorem ay_Ef (os : List O) (e : Eff) (d : List (Int × List Value)) (l : List Int) (mo : List O) (o : O) (k j m : Int) : hrun Tryd.prog (kAe [ixT os e d (odW l) mo [odQ l] o (-1)]) 5 (flatC (loopIn (nth (pcs Tryd.prog 20) 2))) (ayS os e d (odW l) mo [odQ l]) (ayF e k) [true, false, true, true, false, true, false, false, false, false, false] [[encO o]] ⟨[(0, 0, false), (1, 1, false), (2, 2, false), (3, 3, false), (4, 4, false), (7, 7, false), (12, 9, true)], [], [0, 3, 14, 15, 16], 10, 7, false⟩ =
    some (HX.normal, [(0, HObj.row false [frz (List.map encO os)] 35), (1, HObj.row false (cellsE e) 33), (2, HObj.row false [Value.slice none 0 0] 35), (3, HObj.dmap (updI d o.fst ([] ++ flatV (List.map encV o.snd))) 2), (4, HObj.row false [Value.map (some 3), Value.slice (some { block := 9, off := 0 }) (List.length l + 1) 9223372036854775809, frz (List.map encO mo)] 99), (7, HObj.row false (cellsE e) 33), (9, HObj.row true (List.map (fun i => Value.int IntKind.i64 i) l ++ [Value.int IntKind.i64 o.fst]) 2)], [(0, Value.pointer (some { block := 4, off := 0 })), (3, Value.pointer (some { block := 7, off := 0 })), (14, frz (List.map encO e.nw)), (15, Value.int IntKind.i64 ↑(List.length e.nw)), (16, Value.int IntKind.i64 (IntKind.wrap IntKind.i64 (k + 1)))], [(0 + List.length (List.map encV o.snd)) * 2 = List.length ([] ++ flatV (List.map encV o.snd)) ∧ [] ++ flatV (List.map encV o.snd) ≠ [] ∧ (9223372036854775810 < 9223372036854775808 → 0 + List.length (List.map encV o.snd) ≤ 9223372036854775810), Nat.ble (0 + List.length (List.map encV o.snd)) 0 = false, (Nat.ble ((0 + List.length (List.map encV o.snd)) * 16) 140737488355328 && Nat.ble (0 + List.length (List.map encV o.snd)) 4611686018427387904) = true, ∀ (v : Value), v ∈ List.map encV o.snd → Array.size (Value.cells v) = 2, Nat.beq (List.length (List.map encV o.snd)) 0 = false, false = false, (!Nat.beq (List.length (List.map encV o.snd)) 0) = true, Nat.beq (List.length (List.map encV o.snd)) 0 = false, List.length l * 1 = List.length (List.map (fun i => Value.int IntKind.i64 i) l), (Nat.ble ((List.length l + 1) * 8) 140737488355328 && Nat.ble (List.length l + 1) 4611686018427387904) = true, Nat.beq 1 0 = false, ((l.length : Int) == (l.length : Int)) = true, (((1 : Nat) : Int) == 0) = false, (posO (some ↑(List.length l)) && Nat.ble (Option.getD (Option.map Int.toNat (some ↑(List.length l))) 0) (List.length l)) = true, decide ((-1 : Int) < 0) = true, [Value.slice (some { block := 9, off := 0 }) (List.length l) 9223372036854775809, Value.func (Fn.func 37) { toList := [] } { toList := [Value.pointer (some { block := 10, off := 0 })] }] = [Value.slice (some { block := 9, off := 0 }) (List.length l) 9223372036854775809, Value.func (Fn.func 37) { toList := [] } { toList := [Value.pointer (some { block := 10, off := 0 })] }] ∧ Tr.nd (some (HObj.row false [frz (List.map encO os)] 35)) (Tr.nd (some (HObj.row false (cellsE e) 33)) (Tr.nd (some (HObj.dmap d 2)) (Tr.nd (some (HObj.row false (cellsE e) 33)) Tr.lf Tr.lf) Tr.lf) (Tr.nd none (Tr.nd (some (HObj.row true (List.map (fun i => Value.int IntKind.i64 i) l) 2)) Tr.lf Tr.lf) Tr.lf)) (Tr.nd (some (HObj.row false [Value.slice none 0 0] 35)) (Tr.nd (some (HObj.row false [Value.map (some 3), Value.slice (some { block := 9, off := 0 }) (List.length l) 9223372036854775809, frz (List.map encO mo)] 99)) Tr.lf Tr.lf) (Tr.nd none (Tr.nd (some (HObj.row false [Value.int IntKind.i64 o.fst, frz (List.map encV o.snd)] 64)) Tr.lf Tr.lf) Tr.lf)) = Tr.nd (some (HObj.row false [frz (List.map encO os)] 35)) (Tr.nd (some (HObj.row false (cellsE e) 33)) (Tr.nd (some (HObj.dmap d 2)) (Tr.nd (some (HObj.row false (cellsE e) 33)) Tr.lf Tr.lf) Tr.lf) (Tr.nd none (Tr.nd (some (HObj.row true (List.map (fun i => Value.int IntKind.i64 i) l) 2)) Tr.lf Tr.lf) Tr.lf)) (Tr.nd (some (HObj.row false [Value.slice none 0 0] 35)) (Tr.nd (some (HObj.row false [Value.map (some 3), Value.slice (some { block := 9, off := 0 }) (List.length l) 9223372036854775809, frz (List.map encO mo)] 99)) Tr.lf Tr.lf) (Tr.nd none (Tr.nd (some (HObj.row false [Value.int IntKind.i64 o.fst, frz (List.map encV o.snd)] 64)) Tr.lf Tr.lf) Tr.lf)) ∧ 11 = 11 ∧ 0 = 0, (!false) = true, Option.isSome (lookI d o.fst) = false, 0 ≤ k ∧ (List.map encO e.nw)[Int.toNat k]? = some (Value.agg { toList := [Value.int IntKind.i64 o.fst, frz (List.map encV o.snd)] }), decide (k < ↑(List.length e.nw)) = true]) := by kernel_rfl

theorem ay_Me (os : List O) (e : Eff) (d : List (Int × List Value)) (l : List Int) (mo : List O) (o : O) (k j m : Int) : hrun Tryd.prog (kAm [ixT os e d (odW l) mo [odQ l] o j]) 5 (flatC (loopIn (nth (pcs Tryd.prog 20) 2))) (ayS os e d (odW l) mo [odQ l]) (ayF e k) [true, false, true, false, true] [[encO o]] ⟨[(0, 0, false), (1, 1, false), (2, 2, false), (3, 3, false), (4, 4, false), (7, 7, false), (12, 9, true)], [], [0, 3, 14, 15, 16], 10, 7, false⟩ =
    some (HX.normal, [(0, HObj.row false [frz (List.map encO os)] 35), (1, HObj.row false (cellsE e) 33), (2, HObj.row false [Value.slice none 0 0] 35), (3, HObj.dmap (updI d o.fst []) 2), (4, HObj.row false [Value.map (some 3), Value.slice (some { block := 9, off := 0 }) (List.length l + 1) 9223372036854775809, frz (List.map encO mo)] 99), (7, HObj.row false (cellsE e) 33), (9, HObj.row true (List.take (Int.toNat j) (List.map (fun i => Value.int IntKind.i64 i) l) ++ Value.int IntKind.i64 o.fst :: List.drop (Int.toNat j) (List.map (fun i => Value.int IntKind.i64 i) l)) 2)], [(0, Value.pointer (some { block := 4, off := 0 })), (3, Value.pointer (some { block := 7, off := 0 })), (14, frz (List.map encO e.nw)), (15, Value.int IntKind.i64 ↑(List.length e.nw)), (16, Value.int IntKind.i64 (IntKind.wrap IntKind.i64 (k + 1)))], [Nat.beq (List.length (List.map encV o.snd)) 0 = true, 0 ≤ j ∧ ∃ l_1, List.map (fun i => Value.int IntKind.i64 i) l = List.map (fun i => Value.int IntKind.i64 i) l_1 ∧ List.length l = List.length l_1 ∧ Int.toNat j < List.length l_1 ∧ List.length l_1 ≤ 100000, decide (j < 0) = false, [Value.slice (some { block := 9, off := 0 }) (List.length l) 9223372036854775809, Value.func (Fn.func 37) { toList := [] } { toList := [Value.pointer (some { block := 10, off := 0 })] }] = [Value.slice (some { block := 9, off := 0 }) (List.length l) 9223372036854775809, Value.func (Fn.func 37) { toList := [] } { toList := [Value.pointer (some { block := 10, off := 0 })] }] ∧ Tr.nd (some (HObj.row false [frz (List.map encO os)] 35)) (Tr.nd (some (HObj.row false (cellsE e) 33)) (Tr.nd (some (HObj.dmap d 2)) (Tr.nd (some (HObj.row false (cellsE e) 33)) Tr.lf Tr.lf) Tr.lf) (Tr.nd none (Tr.nd (some (HObj.row true (List.map (fun i => Value.int IntKind.i64 i) l) 2)) Tr.lf Tr.lf) Tr.lf)) (Tr.nd (some (HObj.row false [Value.slice none 0 0] 35)) (Tr.nd (some (HObj.row false [Value.map (some 3), Value.slice (some { block := 9, off := 0 }) (List.length l) 9223372036854775809, frz (List.map encO mo)] 99)) Tr.lf Tr.lf) (Tr.nd none (Tr.nd (some (HObj.row false [Value.int IntKind.i64 o.fst, frz (List.map encV o.snd)] 64)) Tr.lf Tr.lf) Tr.lf)) = Tr.nd (some (HObj.row false [frz (List.map encO os)] 35)) (Tr.nd (some (HObj.row false (cellsE e) 33)) (Tr.nd (some (HObj.dmap d 2)) (Tr.nd (some (HObj.row false (cellsE e) 33)) Tr.lf Tr.lf) Tr.lf) (Tr.nd none (Tr.nd (some (HObj.row true (List.map (fun i => Value.int IntKind.i64 i) l) 2)) Tr.lf Tr.lf) Tr.lf)) (Tr.nd (some (HObj.row false [Value.slice none 0 0] 35)) (Tr.nd (some (HObj.row false [Value.map (some 3), Value.slice (some { block := 9, off := 0 }) (List.length l) 9223372036854775809, frz (List.map encO mo)] 99)) Tr.lf Tr.lf) (Tr.nd none (Tr.nd (some (HObj.row false [Value.int IntKind.i64 o.fst, frz (List.map encV o.snd)] 64)) Tr.lf Tr.lf) Tr.lf)) ∧ 11 = 11 ∧ 0 = 0, (!false) = true, Option.isSome (lookI d o.fst) = false, 0 ≤ k ∧ (List.map encO e.nw)[Int.toNat k]? = some (Value.agg { toList := [Value.int IntKind.i64 o.fst, frz (List.map encV o.snd)] }), decide (k < ↑(List.length e.nw)) = true]) := by kernel_rfl

theorem ay_Mf (os : List O) (e : Eff) (d : List (Int × List Value)) (l : List Int) (mo : List O) (o : O) (k j m : Int) : hrun Tryd.prog (kAm [ixT os e d (odW l) mo [odQ l] o j]) 5 (flatC (loopIn (nth (pcs Tryd.prog 20) 2))) (ayS os e d (odW l) mo [odQ l]) (ayF e k) [true, false, true, false, false, false, false, false] [[encO o]] ⟨[(0, 0, false), (1, 1, false), (2, 2, false), (3, 3, false), (4, 4, false), (7, 7, false), (12, 9, true)], [], [0, 3, 14, 15, 16], 10, 7, false⟩ =
    some (HX.normal, [(0, HObj.row false [frz (List.map encO os)] 35), (1, HObj.row false (cellsE e) 33), (2, HObj.row false [Value.slice none 0 0] 35), (3, HObj.dmap (updI d o.fst ([] ++ flatV (List.map encV o.snd))) 2), (4, HObj.row false [Value.map (some 3), Value.slice (some { block := 9, off := 0 }) (List.length l + 1) 9223372036854775809, frz (List.map encO mo)] 99), (7, HObj.row false (cellsE e) 33), (9, HObj.row true (List.take (Int.toNat j) (List.map (fun i => Value.int IntKind.i64 i) l) ++ Value.int IntKind.i64 o.fst :: List.drop (Int.toNat j) (List.map (fun i => Value.int IntKind.i64 i) l)) 2)], [(0, Value.pointer (some { block := 4, off := 0 })), (3, Value.pointer (some { block := 7, off := 0 })), (14, frz (List.map encO e.nw)), (15, Value.int IntKind.i64 ↑(List.length e.nw)), (16, Value.int IntKind.i64 (IntKind.wrap IntKind.i64 (k + 1)))], [(0 + List.length (List.map encV o.snd)) * 2 = List.length ([] ++ flatV (List.map encV o.snd)) ∧ [] ++ flatV (List.map encV o.snd) ≠ [] ∧ (9223372036854775810 < 9223372036854775808 → 0 + List.length (List.map encV o.snd) ≤ 9223372036854775810), Nat.ble (0 + List.length (List.map encV o.snd)) 0 = false, (Nat.ble ((0 + List.length (List.map encV o.snd)) * 16) 140737488355328 && Nat.ble (0 + List.length (List.map encV o.snd)) 4611686018427387904) = true, ∀ (v : Value), v ∈ List.map encV o.snd → Array.size (Value.cells v) = 2, Nat.beq (List.length (List.map encV o.snd)) 0 = false, false = false, (!Nat.beq (List.length (List.map encV o.snd)) 0) = true, Nat.beq (List.length (List.map encV o.snd)) 0 = false, 0 ≤ j ∧ ∃ l_1, List.map (fun i => Value.int IntKind.i64 i) l = List.map (fun i => Value.int IntKind.i64 i) l_1 ∧ List.length l = List.length l_1 ∧ Int.toNat j < List.length l_1 ∧ List.length l_1 ≤ 100000, decide (j < 0) = false, [Value.slice (some { block := 9, off := 0 }) (List.length l) 9223372036854775809, Value.func (Fn.func 37) { toList := [] } { toList := [Value.pointer (some { block := 10, off := 0 })] }] = [Value.slice (some { block := 9, off := 0 }) (List.length l) 9223372036854775809, Value.func (Fn.func 37) { toList := [] } { toList := [Value.pointer (some { block := 10, off := 0 })] }] ∧ Tr.nd (some (HObj.row false [frz (List.map encO os)] 35)) (Tr.nd (some (HObj.row false (cellsE e) 33)) (Tr.nd (some (HObj.dmap d 2)) (Tr.nd (some (HObj.row false (cellsE e) 33)) Tr.lf Tr.lf) Tr.lf) (Tr.nd none (Tr.nd (some (HObj.row true (List.map (fun i => Value.int IntKind.i64 i) l) 2)) Tr.lf Tr.lf) Tr.lf)) (Tr.nd (some (HObj.row false [Value.slice none 0 0] 35)) (Tr.nd (some (HObj.row false [Value.map (some 3), Value.slice (some { block := 9, off := 0 }) (List.length l) 9223372036854775809, frz (List.map encO mo)] 99)) Tr.lf Tr.lf) (Tr.nd none (Tr.nd (some (HObj.row false [Value.int IntKind.i64 o.fst, frz (List.map encV o.snd)] 64)) Tr.lf Tr.lf) Tr.lf)) = Tr.nd (some (HObj.row false [frz (List.map encO os)] 35)) (Tr.nd (some (HObj.row false (cellsE e) 33)) (Tr.nd (some (HObj.dmap d 2)) (Tr.nd (some (HObj.row false (cellsE e) 33)) Tr.lf Tr.lf) Tr.lf) (Tr.nd none (Tr.nd (some (HObj.row true (List.map (fun i => Value.int IntKind.i64 i) l) 2)) Tr.lf Tr.lf) Tr.lf)) (Tr.nd (some (HObj.row false [Value.slice none 0 0] 35)) (Tr.nd (some (HObj.row false [Value.map (some 3), Value.slice (some { block := 9, off := 0 }) (List.length l) 9223372036854775809, frz (List.map encO mo)] 99)) Tr.lf Tr.lf) (Tr.nd none (Tr.nd (some (HObj.row false [Value.int IntKind.i64 o.fst, frz (List.map encV o.snd)] 64)) Tr.lf Tr.lf) Tr.lf)) ∧ 11 = 11 ∧ 0 = 0, (!false) = true, Option.isSome (lookI d o.fst) = false, 0 ≤ k ∧ (List.map encO e.nw)[Int.toNat k]? = some (Value.agg { toList := [Value.int IntKind.i64 o.fst, frz (List.map encV o.snd)] }), decide (k < ↑(List.length e.nw)) = true]) := by kernel_rfl

end Go.Proofs.MA

namespace Go.Proofs.MA
open Go Go.Hx Go.RowKit Go.Proofs
set_option maxRecDepth 100000

theorem one_ok {P : Program} {x : SpecS} (h : FnEx P x.1 x.2.1 x.2.2.1 (fun u t => u = x.2.2.2.1 ∧ t = x.2.2.2.2)) : CallOK P (specS [x]) := specS_ok fun g a0 s0 v s1 hm => by
  rw [List.mem_singleton] at hm
  subst hm
  exact h
theorem nil_ok {P : Program} : CallOK P (specS []) := specS_ok fun g a0 s0 v s1 hm => by cases hm
theorem kAe_ok {l : List SpecS} (h : CallOK Tryd.prog (specS l)) : CallOK Tryd.prog (kAe l) := orK_ok h (kCl_ok kIn_ok)
theorem kAm_ok {l : List SpecS} (h : CallOK Tryd.prog (specS l)) : CallOK Tryd.prog (kAm l) := orK_ok h (orK_ok insK_ok (kCl_ok kIn_ok))

theorem gtI_at : ∀ (l : List Int) (id : Int) (i : Nat), gtI l id i = -1 ∨ ∃ k : Nat, gtI l id i = ((i + k : Nat) : Int) ∧ k < l.length
  | [], _, _ => .inl rfl
  | x :: l, id, i => by
    by_cases hx : x > id
    · exact .inr ⟨0, by simp [gtI, hx], by simp⟩
    · simp only [gtI, if_neg hx]
      rcases gtI_at l id (i + 1) with h | ⟨k, h1, h2⟩
      · exact .inl h
      · exact .inr ⟨k + 1, by rw [h1]; congr 1; omega, by simp; omega⟩

/-- A new object into the memory. -/
def insO (od : List Int) (id : Int) : List Int := if gtI od id 0 < 0 then od ++ [id] else insI od (gtI od id 0).toNat id
def new1 (m : Me) (o : O) : Me := if (lookI m.d o.1).isSome then ⟨updI m.d o.1 o.2, m.od, m.mo⟩ else ⟨updI m.d o.1 o.2, insO m.od o.1, m.mo⟩
theorem insO_len (od : List Int) (id : Int) : (insO od id).length = od.length + 1 := by
  unfold insO
  split
  · simp
  · rename_i h
    rcases gtI_at od id 0 with h1 | ⟨k, h1, h2⟩
    · omega
    · unfold insI; rw [h1]; simp; omega

def ayM (os : List O) (e : Eff) (m : Me) : St := memF os e m [effR e]

theorem ay_step (os : List O) (e : Eff) (m : Me) (o : O) (k : Nat) (hk : e.nw[k]? = some o) (hsm : SmV o.2) (hnw : e.nw.length ≤ 100000) (hn : m.od = [] → m.d = []) (h1 : m.od.length ≤ 100000)
    {Q : HX → St → HF → Prop} (hQ : Q .normal (ayM os e (new1 m o)) (ayF e (IntKind.wrap IntKind.i64 ((k : Int) + 1)))) :
    Ex Tryd.prog 7 (flatC (loopIn (nth (pcs Tryd.prog 20) 2))) (ayM os e m) (ayF e k) Q := by
  obtain ⟨d, od, mo⟩ := m
  have hlt : k < e.nw.length := by
    rcases Nat.lt_or_ge k e.nw.length with h | h
    · exact h
    · rw [List.getElem?_eq_none h] at hk; cases hk
  have hidx : 0 ≤ ((k : Nat) : Int) ∧ (e.nw.map encO)[((k : Nat) : Int).toNat]? = some (encO o) := ⟨by omega, map_at hk⟩
  have hdec : decide (((k : Nat) : Int) < ((e.nw.length : Nat) : Int)) = true := by simp; omega
  have hfl : (List.map encV o.2).length = o.2.length := List.length_map ..
  have hfs : ∀ v ∈ List.map encV o.2, v.cells.size = 2 := flatV_encV _
  have hlen : (flatV (List.map encV o.2)).length = o.2.length * 2 := flatV_V_len _
  unfold SmV at hsm
  have hlk : ∀ n, lookI (encD d) n = (lookI d n).map flatF := fun n => lookI_map flatF d n
  have hup : ∀ n x, updI (encD d) n (flatF x) = encD (updI d n x) := fun n x => updI_map flatF d n x
  have c1 : o.2 ≠ [] → (0 + (List.map encV o.2).length) * 2 = ([] ++ flatV (List.map encV o.2)).length ∧ [] ++ flatV (List.map encV o.2) ≠ [] ∧ (9223372036854775810 < 9223372036854775808 → 0 + (List.map encV o.2).length ≤ 9223372036854775810) := by
    intro hne
    refine ⟨by rw [List.nil_append, hlen, hfl]; omega, ?_, fun h => by omega⟩
    intro h0
    rw [List.nil_append] at h0
    rw [h0] at hlen
    have : o.2.length = 0 := by simp at hlen; omega
    exact hne (List.eq_nil_of_length_eq_zero this)
  have c2 : o.2 ≠ [] → Nat.ble (0 + (List.map encV o.2).length) 0 = false := by
    intro hne
    cases hb : Nat.ble (0 + (List.map encV o.2).length) 0 with
    | false => rfl
    | true => exact absurd (List.eq_nil_of_length_eq_zero (by have := ble_le hb; omega)) hne
  have c3 : (Nat.ble ((0 + (List.map encV o.2).length) * 16) 140737488355328 && Nat.ble (0 + (List.map encV o.2).length) 4611686018427387904) = true := apOK (by omega) (by omega)
  have c4 : o.2 ≠ [] → Nat.beq (List.map encV o.2).length 0 = false := fun hne => beqF (by rw [hfl]; intro h; exact hne (List.eq_nil_of_length_eq_zero h))
  have c5 : o.2 ≠ [] → (!Nat.beq (List.map encV o.2).length 0) = true := fun hne => by rw [c4 hne]; rfl
  have c6 : o.2 = [] → Nat.beq (List.map encV o.2).length 0 = true := fun h => by rw [h]; rfl
  have ue : o.2 = [] → updI (encD d) o.1 [] = encD (updI d o.1 o.2) := fun h => by rw [← hup, h]; rfl
  have uf : updI (encD d) o.1 ([] ++ flatV (List.map encV o.2)) = encD (updI d o.1 o.2) := hup o.1 o.2
  cases hf : lookI d o.1 with
  | some fs =>
    have hl1 : new1 ⟨d, od, mo⟩ o = ⟨updI d o.1 o.2, od, mo⟩ := by unfold new1; rw [hf]; rfl
    rw [hl1] at hQ
    cases od with
    | nil =>
      have := hn rfl
      simp only at this
      rw [this] at hf
      cases hf
    | cons x l =>
      have hL : (lookI (encD d) o.1).isSome = true := by rw [hlk, hf]; rfl
      have hS : 0 ≤ ((fs.length : Nat) : Int) ∧ 0 < 2 ∧ ∃ cs, lookI (encD d) o.1 = some cs ∧ cs.length = ((fs.length : Nat) : Int).toNat * 2 := ⟨by omega, by omega, flatF fs, by rw [hlk, hf]; rfl, by rw [show (flatF fs).length = fs.length * 2 from flatV_V_len _]; simp⟩
      by_cases hfe : o.2 = []
      · refine Ex.stepN noGT (kAe_ok nil_ok) 99 106 0 10 (ay_Fe os e (encD d) (x :: l) mo o k 0 fs.length) rfl (.cons (c6 hfe) (.cons rfl (.cons hS (.cons hL (.cons hidx (.cons hdec .nil)))))) ?_
        refine Ex.nil ?_
        rw [ue hfe]
        exact hQ
      · refine Ex.stepN noGT (kAe_ok nil_ok) 99 106 0 10 (ay_Ff os e (encD d) (x :: l) mo o k 0 fs.length) rfl (.cons (c1 hfe) (.cons (c2 hfe) (.cons c3 (.cons hfs (.cons (c4 hfe) (.cons rfl (.cons (c5 hfe) (.cons (c4 hfe) (.cons rfl (.cons hS (.cons hL (.cons hidx (.cons hdec .nil))))))))))))) ?_
        refine Ex.nil ?_
        rw [uf]
        exact hQ
  | none =>
    have hl1 : new1 ⟨d, od, mo⟩ o = ⟨updI d o.1 o.2, insO od o.1, mo⟩ := by unfold new1; rw [hf]; rfl
    rw [hl1] at hQ
    have hL : (lookI (encD d) o.1).isSome = false := by rw [hlk, hf]; rfl
    cases od with
    | nil =>
      have hi : insO [] o.1 = [o.1] := rfl
      rw [hi] at hQ
      by_cases hfe : o.2 = []
      · refine Ex.stepN noGT (kAe_ok (one_ok (ix_ok1 os e (encD d) mo o))) 99 106 0 10 (ay_Ne os e (encD d) [] mo o k 0 0) rfl (.cons (c6 hfe) (.cons rfl (.cons rfl (.cons rfl (.cons rfl (.cons rfl (.cons rfl (.cons ⟨rfl, rfl, rfl, rfl⟩ (.cons rfl (.cons hL (.cons hidx (.cons hdec .nil)))))))))))) ?_
        refine Ex.nil ?_
        rw [ue hfe]
        exact hQ
      · refine Ex.stepN noGT (kAe_ok (one_ok (ix_ok1 os e (encD d) mo o))) 99 106 0 10 (ay_Nf os e (encD d) [] mo o k 0 0) rfl (.cons (c1 hfe) (.cons (c2 hfe) (.cons c3 (.cons hfs (.cons (c4 hfe) (.cons rfl (.cons (c5 hfe) (.cons (c4 hfe) (.cons rfl (.cons rfl (.cons rfl (.cons rfl (.cons rfl (.cons rfl (.cons ⟨rfl, rfl, rfl, rfl⟩ (.cons rfl (.cons hL (.cons hidx (.cons hdec .nil))))))))))))))))))) ?_
        refine Ex.nil ?_
        rw [uf]
        exact hQ
    | cons x l =>
      simp only at h1
      have ix := ix_ok2 os e (encD d) (x :: l) mo o h1
      rcases gtI_at (x :: l) o.1 0 with hg | ⟨j, hg, hj⟩
      · have hi : insO (x :: l) o.1 = x :: l ++ [o.1] := by unfold insO; rw [hg]; rfl
        rw [hi] at hQ
        rw [hg] at ix
        have b1 := ids_len (x :: l)
        have b2 : (Nat.ble (((x :: l).length + 1) * 8) 140737488355328 && Nat.ble ((x :: l).length + 1) 4611686018427387904) = true := apOK (by omega) (by omega)
        have b3 : ((((x :: l).length : Nat) : Int) == (((x :: l).length : Nat) : Int)) = true := by simp
        have b4 : (posO (some (((x :: l).length : Nat) : Int)) && Nat.ble (Option.getD (Option.map Int.toNat (some (((x :: l).length : Nat) : Int))) 0) (x :: l).length) = true := by simp [posO]; omega
        have hids : List.map (fun i => Value.int IntKind.i64 i) (x :: l) ++ [Value.int IntKind.i64 o.1] = ids (x :: l ++ [o.1]) := by simp [ids]
        have h9 : (x :: l).length + 1 = (x :: l ++ [o.1]).length := by simp
        by_cases hfe : o.2 = []
        · refine Ex.stepN noGT (kAe_ok (one_ok ix)) 99 106 0 10 (ay_Ee os e (encD d) (x :: l) mo o k 0 0) rfl (.cons (c6 hfe) (.cons b1 (.cons b2 (.cons rfl (.cons b3 (.cons rfl (.cons b4 (.cons rfl (.cons ⟨rfl, rfl, rfl, rfl⟩ (.cons rfl (.cons hL (.cons hidx (.cons hdec .nil))))))))))))) ?_
          refine Ex.nil ?_
          rw [ue hfe, hids, h9]
          exact hQ
        · refine Ex.stepN noGT (kAe_ok (one_ok ix)) 99 106 0 10 (ay_Ef os e (encD d) (x :: l) mo o k 0 0) rfl (.cons (c1 hfe) (.cons (c2 hfe) (.cons c3 (.cons hfs (.cons (c4 hfe) (.cons rfl (.cons (c5 hfe) (.cons (c4 hfe) (.cons b1 (.cons b2 (.cons rfl (.cons b3 (.cons rfl (.cons b4 (.cons rfl (.cons ⟨rfl, rfl, rfl, rfl⟩ (.cons rfl (.cons hL (.cons hidx (.cons hdec .nil)))))))))))))))))))) ?_
          refine Ex.nil ?_
          rw [uf, hids, h9]
          exact hQ
      · rw [Nat.zero_add] at hg
        have hi : insO (x :: l) o.1 = insI (x :: l) j o.1 := by unfold insO; rw [hg, if_neg (by omega)]; rfl
        rw [hi] at hQ
        rw [hg] at ix
        have b1 : 0 ≤ ((j : Nat) : Int) ∧ ∃ l_1 : List Int, List.map (fun i => Value.int IntKind.i64 i) (x :: l) = List.map (fun i => Value.int IntKind.i64 i) l_1 ∧ (x :: l).length = l_1.length ∧ ((j : Nat) : Int).toNat < l_1.length ∧ l_1.length ≤ 100000 := ⟨by omega, x :: l, rfl, rfl, by simpa using hj, h1⟩
        have b2 : decide (((j : Nat) : Int) < 0) = false := by simp
        have hids : List.take ((j : Nat) : Int).toNat (List.map (fun i => Value.int IntKind.i64 i) (x :: l)) ++ Value.int IntKind.i64 o.1 :: List.drop ((j : Nat) : Int).toNat (List.map (fun i => Value.int IntKind.i64 i) (x :: l)) = ids (insI (x :: l) j o.1) := by simp [ids, insI]
        have h9 : (x :: l).length + 1 = (insI (x :: l) j o.1).length := by unfold insI; simp; omega
        have hne : ∃ y r, insI (x :: l) j o.1 = y :: r := by
          cases hh : insI (x :: l) j o.1 with
          | nil => rw [hh] at h9; simp at h9
          | cons y r => exact ⟨y, r, rfl⟩
        obtain ⟨y, r, hyr⟩ := hne
        by_cases hfe : o.2 = []
        · refine Ex.stepN noGT (kAm_ok (one_ok ix)) 99 106 0 10 (ay_Me os e (encD d) (x :: l) mo o k j 0) rfl (.cons (c6 hfe) (.cons b1 (.cons b2 (.cons ⟨rfl, rfl, rfl, rfl⟩ (.cons rfl (.cons hL (.cons hidx (.cons hdec .nil)))))))) ?_
          refine Ex.nil ?_
          rw [ue hfe, hids, h9]
          rw [hyr] at hQ ⊢
          exact hQ
        · refine Ex.stepN noGT (kAm_ok (one_ok ix)) 99 106 0 10 (ay_Mf os e (encD d) (x :: l) mo o k j 0) rfl (.cons (c1 hfe) (.cons (c2 hfe) (.cons c3 (.cons hfs (.cons (c4 hfe) (.cons rfl (.cons (c5 hfe) (.cons (c4 hfe) (.cons b1 (.cons b2 (.cons ⟨rfl, rfl, rfl, rfl⟩ (.cons rfl (.cons hL (.cons hidx (.cons hdec .nil))))))))))))))) ?_
          refine Ex.nil ?_
          rw [uf, hids, h9]
          rw [hyr] at hQ ⊢
          exact hQ

end Go.Proofs.MA
