/- MachineApplies: apply. Conditions: none. -/
import Derived.Test.YtpjfmjemmphheacDoorM9
import Derived.Test.YtpjfmjemmphheacDoorE8
import Derived.Test.YtpjfmjemmphheacDoorE9
import Derived.Test.YtpjfmjemmphheacDoorP1
set_option linter.all false
set_option linter.unusedVariables false
set_option linter.unusedSimpArgs false
namespace Go.Proofs.MA
open Go Go.Hx Go.RowKit Go.Proofs
set_option maxRecDepth 100000

def blockIn : Code → Code
  | .block _ c => c
  | _ => .skip
noncomputable def body2 : List Code := flatC (loopIn (nth (pcs Tryd.prog 20) 4))
noncomputable def inner2 : List Code := flatC (blockIn (nth body2 2))
def cellR (c : C4) : Nat × HObj := (10, .row false [.int .i64 c.1, .int .i64 c.2.1, .bool c.2.2.1, .int .i64 c.2.2.2] 76)
def wqS (os : List O) (e : Eff) (o3 : HObj) (l : List Int) (mo : List O) (c : C4) (ol : List (Nat × HObj)) (n : Nat) : St :=
  mkSt (parks os e ++ [(3, o3), (4, .row false [.map (some 3), odW l, encOs mo] 99), odQ l, effR e, cellR c] ++ ol) n 0

theorem ew_1 (os : List O) (e : Eff) (d : List (Int × List Value)) (l : List Int) (mo : List O) (k m : Int) (c : C4) : hrun Tryd.prog kIn 5 (body2.take 2) (ayS os e d (odW l) mo [odQ l]) (azF e k) [true] [] ⟨[(0, 0, false), (1, 1, false), (2, 2, false), (3, 3, false), (4, 4, false), (7, 7, false), (9, 9, true)], [], [0, 3, 68, 69, 70], 10, 7, false⟩ =
    some (HX.normal, [(0, HObj.row false [frz (List.map encO os)] 35), (1, HObj.row false (cellsE e) 33), (2, HObj.row false [Value.slice none 0 0] 35), (3, HObj.dmap d 2), (4, HObj.row false [Value.map (some 3), Value.slice (some { block := 9, off := 0 }) (List.length l) 9223372036854775809, frz (List.map encO mo)] 99), (7, HObj.row false (cellsE e) 33), (9, HObj.row true (List.map (fun i => Value.int IntKind.i64 i) l) 2)], [(0, Value.pointer (some { block := 4, off := 0 })), (3, Value.pointer (some { block := 7, off := 0 })), (68, frz (List.map encC e.ws)), (69, Value.int IntKind.i64 ↑(List.length e.ws)), (70, Value.int IntKind.i64 k)], [decide (k < ↑(List.length e.ws)) = true]) := by kernel_rfl

theorem ew_2 (os : List O) (e : Eff) (d : List (Int × List Value)) (l : List Int) (mo : List O) (k m : Int) (c : C4) : hrun Tryd.prog kIn 5 (inner2.take 3) (ayS os e d (odW l) mo [odQ l]) (azF e k) [true, true, true, true, true, true, true, true, true, true, true] [[encC c], [.int .i64 m]] ⟨[(0, 0, false), (1, 1, false), (2, 2, false), (3, 3, false), (4, 4, false), (7, 7, false), (9, 9, true), (10, 10, false)], [], [0, 3, 10, 68, 69, 70, 92], 11, 7, false⟩ =
    some (HX.normal, [(0, HObj.row false [frz (List.map encO os)] 35), (1, HObj.row false (cellsE e) 33), (2, HObj.row false [Value.slice none 0 0] 35), (3, HObj.dmap d 2), (4, HObj.row false [Value.map (some 3), Value.slice (some { block := 9, off := 0 }) (List.length l) 9223372036854775809, frz (List.map encO mo)] 99), (7, HObj.row false (cellsE e) 33), (9, HObj.row true (List.map (fun i => Value.int IntKind.i64 i) l) 2), (10, HObj.row false [Value.int IntKind.i64 c.fst, Value.int IntKind.i64 c.snd.fst, Value.bool c.snd.snd.fst, Value.int IntKind.i64 c.snd.snd.snd] 76)], [(0, Value.pointer (some { block := 4, off := 0 })), (3, Value.pointer (some { block := 7, off := 0 })), (10, Value.pointer (some { block := 10, off := 0 })), (68, frz (List.map encC e.ws)), (69, Value.int IntKind.i64 ↑(List.length e.ws)), (70, Value.int IntKind.i64 k), (92, Value.bool (decide (c.snd.fst < ↑(Int.toNat m))))], [decide (c.snd.fst ≥ 0) = true, (decide (c.snd.fst ≥ 0) == true) = true, (decide (c.snd.fst ≥ 0) == true) = true, (decide (c.snd.fst ≥ 0) == true) = true, (decide (c.snd.fst ≥ 0) == true) = true, true = true, (true == true) = true, (true == true) = true, (true == true) = true, 0 ≤ m ∧ 0 < 2 ∧ ∃ cs, lookI d c.fst = some cs ∧ List.length cs = Int.toNat m * 2, Option.isSome (lookI d c.fst) = true, 0 ≤ k ∧ (List.map encC e.ws)[Int.toNat k]? = some (Value.agg { toList := [Value.int IntKind.i64 c.fst, Value.int IntKind.i64 c.snd.fst, Value.bool c.snd.snd.fst, Value.int IntKind.i64 c.snd.snd.snd] })]) := by kernel_rfl

theorem ew_3 (os : List O) (e : Eff) (d : List (Int × List Value)) (l : List Int) (mo : List O) (k m : Int) (c : C4) (cs : List Value) (ty ln cp : Nat) (b : Bool) : hrun Tryd.prog kIn 5 (flatC (thenIn (nth inner2 3))) (wqS os e (.kmap c.1 (.slice (some ⟨11, 0, none⟩) ln cp)) l mo c [(11, .row true cs ty)] 12) (mkF [(0, .pointer (some ⟨4, 0, none⟩)), (3, .pointer (some ⟨7, 0, none⟩)), (10, .pointer (some ⟨10, 0, none⟩)), (68, frz (e.ws.map encC)), (69, .int .i64 e.ws.length), (70, .int .i64 k), (92, .bool b)] 106) [] [] ⟨[(0, 0, false), (1, 1, false), (2, 2, false), (3, 3, false), (4, 4, false), (7, 7, false), (9, 9, true), (10, 10, false), (11, 11, true)], [], [0, 3, 10, 68, 69, 70], 12, 12, false⟩ =
    some (HX.normal, [(0, HObj.row false [frz (List.map encO os)] 35), (1, HObj.row false (cellsE e) 33), (2, HObj.row false [Value.slice none 0 0] 35), (3, HObj.dead), (4, HObj.row false [Value.map (some 3), Value.slice (some { block := 9, off := 0 }) (List.length l) 9223372036854775809, frz (List.map encO mo)] 99), (7, HObj.row false (cellsE e) 33), (9, HObj.row true (List.map (fun i => Value.int IntKind.i64 i) l) 2), (10, HObj.row false [Value.int IntKind.i64 c.fst, Value.int IntKind.i64 c.snd.fst, Value.bool c.snd.snd.fst, Value.int IntKind.i64 c.snd.snd.snd] 76), (11, HObj.row true (List.take (0 + Int.toNat c.snd.fst * 2) cs ++ [Value.bool c.snd.snd.fst, Value.int IntKind.i64 c.snd.snd.snd] ++ List.drop (0 + Int.toNat c.snd.fst * 2 + 2) cs) ty)], [(0, Value.pointer (some { block := 4, off := 0 })), (3, Value.pointer (some { block := 7, off := 0 })), (10, Value.pointer (some { block := 10, off := 0 })), (68, frz (List.map encC e.ws)), (69, Value.int IntKind.i64 ↑(List.length e.ws)), (70, Value.int IntKind.i64 k)], [0 + Int.toNat c.snd.fst * 2 + 2 ≤ List.length cs, (decide (0 ≤ c.snd.fst) && decide (c.snd.fst < ↑ln)) = true, c.fst = c.fst]) := by kernel_rfl

theorem ew_4 (os : List O) (e : Eff) (d : List (Int × List Value)) (l : List Int) (mo : List O) (k m : Int) (c : C4) (cs : List Value) (ty : Nat) : hrun Tryd.prog kIn 5 (body2.drop 3) (wqS os e (.dmap d 2) l mo c [(11, .dead)] 12) (mkF [(0, .pointer (some ⟨4, 0, none⟩)), (3, .pointer (some ⟨7, 0, none⟩)), (10, .pointer (some ⟨10, 0, none⟩)), (68, frz (e.ws.map encC)), (69, .int .i64 e.ws.length), (70, .int .i64 k)] 106) [] [] ⟨[(0, 0, false), (1, 1, false), (2, 2, false), (3, 3, false), (4, 4, false), (7, 7, false), (9, 9, true)], [], [0, 3, 68, 69, 70], 10, 7, false⟩ =
    some (HX.normal, [(0, HObj.row false [frz (List.map encO os)] 35), (1, HObj.row false (cellsE e) 33), (2, HObj.row false [Value.slice none 0 0] 35), (3, HObj.dmap d 2), (4, HObj.row false [Value.map (some 3), Value.slice (some { block := 9, off := 0 }) (List.length l) 9223372036854775809, frz (List.map encO mo)] 99), (7, HObj.row false (cellsE e) 33), (9, HObj.row true (List.map (fun i => Value.int IntKind.i64 i) l) 2)], [(0, Value.pointer (some { block := 4, off := 0 })), (3, Value.pointer (some { block := 7, off := 0 })), (68, frz (List.map encC e.ws)), (69, Value.int IntKind.i64 ↑(List.length e.ws)), (70, Value.int IntKind.i64 (IntKind.wrap IntKind.i64 (k + 1)))], []) := by kernel_rfl

end Go.Proofs.MA

namespace Go.Proofs.MA
open Go Go.Hx Go.RowKit Go.Proofs
set_option maxRecDepth 100000

theorem flatF_cons (x : V) (l : List V) : flatF (x :: l) = .bool x.1 :: .int .i64 x.2 :: flatF l := rfl
theorem flatF_set : ∀ (fs : List V) (j : Nat) (v : V), j < fs.length → flatF (fs.set j v) = (flatF fs).take (j * 2) ++ [.bool v.1, .int .i64 v.2] ++ (flatF fs).drop (j * 2 + 2)
  | [], j, v, h => by simp at h
  | x :: l, 0, v, _ => by simp [flatF_cons]
  | x :: l, j + 1, v, h => by
    have := flatF_set l j v (by simpa using h)
    rw [List.set_cons_succ, flatF_cons, flatF_cons, this]
    simp [Nat.succ_mul]
theorem flatF_len (fs : List V) : (flatF fs).length = fs.length * 2 := by rw [show (flatF fs).length = fs.length * 2 by rw [flatF, flatV_V_len]]

theorem az_b2 : body2.drop 2 = .block 3 (blockIn (nth body2 2)) :: body2.drop 3 := by kernel_rfl
theorem az_i3 : inner2.drop 3 = .cond (condOf (nth inner2 3)) (thenIn (nth inner2 3)) (elseIn (nth inner2 3)) :: [] := by kernel_rfl

theorem az_write (os : List O) (e : Eff) (d : List (Int × List V)) (l : List Int) (mo : List O) (k : Nat) (c : C4) (fs : List V) (hk : e.ws[k]? = some c) (hf : lookI d c.1 = some fs) (h0 : 0 ≤ c.2.1) (h1 : c.2.1 < fs.length)
    {Q : HX → St → HF → Prop} (hQ : Q .normal (ayS os e (encD (updI d c.1 (fs.set c.2.1.toNat c.2.2))) (odW l) mo [odQ l]) (azF e (IntKind.wrap IntKind.i64 ((k : Int) + 1)))) :
    Ex Tryd.prog 7 body2 (ayS os e (encD d) (odW l) mo [odQ l]) (azF e k) Q := by
  have hlt : k < e.ws.length := by
    rcases Nat.lt_or_ge k e.ws.length with h | h
    · exact h
    · rw [List.getElem?_eq_none h] at hk; cases hk
  have hidx : 0 ≤ ((k : Nat) : Int) ∧ (e.ws.map encC)[((k : Nat) : Int).toNat]? = some (encC c) := ⟨by omega, map_at hk⟩
  have hdec : decide (((k : Nat) : Int) < ((e.ws.length : Nat) : Int)) = true := by simp; omega
  have hlk : lookI (encD d) c.1 = some (flatF fs) := by rw [show lookI (encD d) c.1 = (lookI d c.1).map flatF from lookI_map flatF d c.1, hf]; rfl
  have hge : decide (c.2.1 ≥ 0) = true := by simpa using h0
  have hS : 0 ≤ ((fs.length : Nat) : Int) ∧ 0 < 2 ∧ ∃ cs, lookI (encD d) c.1 = some cs ∧ cs.length = ((fs.length : Nat) : Int).toNat * 2 := ⟨by omega, by omega, flatF fs, hlk, by rw [flatF_len]; simp⟩
  refine Ex.stepN noGT kIn_ok 2 106 0 10 (ew_1 os e (encD d) l mo k 0 c) rfl (.cons hdec .nil) ?_
  show Ex Tryd.prog 7 (body2.drop 2) _ _ _
  rw [az_b2]
  refine Ex.block ?_
  show Ex Tryd.prog 7 inner2 (ayS os e (encD d) (odW l) mo [odQ l]) (azF e k) _
  refine Ex.stepN noGT kIn_ok 3 106 0 11 (ew_2 os e (encD d) l mo k fs.length c) rfl (.cons hge (.cons (by rw [hge]; rfl) (.cons (by rw [hge]; rfl) (.cons (by rw [hge]; rfl) (.cons (by rw [hge]; rfl) (.cons rfl (.cons rfl (.cons rfl (.cons rfl (.cons hS (.cons (by rw [hlk]; rfl) (.cons hidx .nil)))))))))))) ?_
  show Ex Tryd.prog 7 (inner2.drop 3) _ _ _
  rw [az_i3]
  refine Ex.condT (b := decide (c.2.1 < ((((fs.length : Nat) : Int).toNat : Nat) : Int))) (by kernel_rfl) (by simpa using h1) ?_
  have hcs : (flatF fs).length = fs.length * 2 := flatF_len fs
  have hj : c.2.1.toNat < fs.length := by omega
  have hset := flatF_set fs c.2.1.toNat c.2.2 hj
  have hup : updI (encD d) c.1 (flatF (fs.set c.2.1.toNat c.2.2)) = encD (updI d c.1 (fs.set c.2.1.toNat c.2.2)) := updI_map flatF d _ _
  have key := Ex.lend (P := Tryd.prog) (n0 := 7) (l := flatC (thenIn (nth inner2 3))) (s := wqS os e (.dmap (encD d) 2) l mo c [] 11) (i := 3) (z := 2) (es := encD d) (n := c.1) (cs := flatF fs) (cs2 := flatF (fs.set c.2.1.toNat c.2.2))
    (s3 := wqS os e (.dmap (updI (encD d) c.1 (flatF (fs.set c.2.1.toNat c.2.2))) 2) l mo c [(11, .dead)] 12)
    (f := mkF [(0, .pointer (some ⟨4, 0, none⟩)), (3, .pointer (some ⟨7, 0, none⟩)), (10, .pointer (some ⟨10, 0, none⟩)), (68, frz (e.ws.map encC)), (69, .int .i64 e.ws.length), (70, .int .i64 k), (92, .bool (decide (c.2.1 < ((((fs.length : Nat) : Int).toNat : Nat) : Int))))] 106)
    (f2 := mkF [(0, .pointer (some ⟨4, 0, none⟩)), (3, .pointer (some ⟨7, 0, none⟩)), (10, .pointer (some ⟨10, 0, none⟩)), (68, frz (e.ws.map encC)), (69, .int .i64 e.ws.length), (70, .int .i64 k)] 106)
    (sl := fun ty ln cp => wqS os e (.kmap c.1 (.slice (some ⟨11, 0, none⟩) ln cp)) l mo c [(11, .row true (flatF fs) ty)] 12)
    (sr := fun ty => wqS os e .dead l mo c [(11, .row true (flatF (fs.set c.2.1.toNat c.2.2)) ty)] 12)
    (by kernel_rfl) (by omega) hlk (by intro h; rw [h] at hcs; simp at hcs; omega) (by rw [flatF_len, flatF_len]; simp) (by show 7 ≤ 12; omega)
    (fun ty ln cp => ⟨(wqS os e (.kmap c.1 (.slice (some ⟨11, 0, none⟩) ln cp)) l mo c [] 11).h, by kernel_rfl, by kernel_rfl, rfl, rfl⟩)
    (fun ty ln cp m1 m2 m3 => by
      have hln : ln = fs.length := by omega
      have r := Ex.run noGT kIn_ok (ew_3 os e (encD d) l mo k 0 c (flatF fs) ty ln cp (decide (c.2.1 < ((((fs.length : Nat) : Int).toNat : Nat) : Int)))) (.cons (by rw [hcs]; omega) (.cons (by subst hln; simp [h0, h1]) (.cons rfl .nil)))
      refine r.mono fun x s f ⟨q1, q2, q3⟩ => ⟨q1, ?_, q3⟩
      rw [q2, Nat.zero_add, hset]
      rfl)
    (fun ty => ⟨.inr (by kernel_rfl), by kernel_rfl, by show 11 < 12; omega, (wqS os e .dead l mo c [(11, .dead)] 12).h, by kernel_rfl, by kernel_rfl, rfl, rfl⟩)
  refine key.append fun x s f ⟨q1, q2, q3⟩ => ?_
  subst q1 q2 q3
  refine Ex.nil ?_
  show Ex Tryd.prog 7 (body2.drop 3) _ _ _
  rw [hup]
  refine Ex.stepN noGT kIn_ok 99 106 0 10 (ew_4 os e (encD (updI d c.1 (fs.set c.2.1.toNat c.2.2))) l mo k 0 c [] 0) rfl .nil ?_
  exact Ex.nil hQ

/-- A round of the second loop. -/
theorem az_round (os : List O) (e : Eff) (m : Me) (k : Nat) (c : C4) (hk : e.ws[k]? = some c) (hn : m.od = [] → m.d = [])
    {Q : HX → St → HF → Prop} (hQ : Q .normal (ayM os e (wr1M m c)) (azF e (IntKind.wrap IntKind.i64 ((k : Int) + 1)))) : Ex Tryd.prog 7 body2 (ayM os e m) (azF e k) Q := by
  obtain ⟨d, od, mo⟩ := m
  have hlt : k < e.ws.length := by
    rcases Nat.lt_or_ge k e.ws.length with h | h
    · exact h
    · rw [List.getElem?_eq_none h] at hk; cases hk
  have hidx : 0 ≤ ((k : Nat) : Int) ∧ (e.ws.map encC)[((k : Nat) : Int).toNat]? = some (encC c) := ⟨by omega, map_at hk⟩
  have hdec : decide (((k : Nat) : Int) < ((e.ws.length : Nat) : Int)) = true := by simp; omega
  have hlk : lookI (encD d) c.1 = (lookI d c.1).map flatF := lookI_map flatF d c.1
  cases hf : lookI d c.1 with
  | none =>
    have hw : wr1M ⟨d, od, mo⟩ c = ⟨d, od, mo⟩ := by unfold wr1M; rw [hf]
    rw [hw] at hQ
    have hL : (lookI (encD d) c.1).isSome = false := by rw [hlk, hf]; rfl
    have ps : ∀ {a b : Prop}, a → b → allP [false = false, false = false, (false == true) = false, (false == true) = false, (false == true) = false, (false == true) = false, false = false, (false == true) = false, (false == true) = false, (false == true) = false, (lookI (encD d) c.1).isSome = false, a, b] := fun ha hb =>
      .cons rfl (.cons rfl (.cons rfl (.cons rfl (.cons rfl (.cons rfl (.cons rfl (.cons rfl (.cons rfl (.cons rfl (.cons hL (.cons ha (.cons hb .nil))))))))))))
    cases od with
    | nil => exact Ex.stepN noGT kIn_ok 99 106 0 10 (ae_n1 os e (encD d) [] mo k 0 c) rfl (ps hidx hdec) (Ex.nil hQ)
    | cons x l => exact Ex.stepN noGT kIn_ok 99 106 0 10 (ae_n2 os e (encD d) (x :: l) mo k 0 c) rfl (ps hidx hdec) (Ex.nil hQ)
  | some fs =>
    cases od with
    | nil =>
      have := hn rfl
      simp only at this
      rw [this] at hf
      cases hf
    | cons x l =>
      have hL : (lookI (encD d) c.1).isSome = true := by rw [hlk, hf]; rfl
      have hS : 0 ≤ ((fs.length : Nat) : Int) ∧ 0 < 2 ∧ ∃ cs, lookI (encD d) c.1 = some cs ∧ cs.length = ((fs.length : Nat) : Int).toNat * 2 := ⟨by omega, by omega, flatF fs, by rw [hlk, hf]; rfl, by rw [flatF_len]; simp⟩
      by_cases h0 : 0 ≤ c.2.1
      · by_cases h1 : c.2.1 < fs.length
        · have hw : wr1M ⟨d, x :: l, mo⟩ c = ⟨updI d c.1 (fs.set c.2.1.toNat c.2.2), x :: l, mo⟩ := by unfold wr1M; rw [hf]; simp only; rw [if_pos ⟨h0, h1⟩]
          rw [hw] at hQ
          exact az_write os e d (x :: l) mo k c fs hk hf h0 h1 hQ
        · have hw : wr1M ⟨d, x :: l, mo⟩ c = ⟨d, x :: l, mo⟩ := by unfold wr1M; rw [hf]; simp only; rw [if_neg (fun h => h1 h.2)]
          rw [hw] at hQ
          have hge : decide (c.2.1 ≥ 0) = true := by simpa using h0
          have hd2 : decide (c.2.1 < ((((fs.length : Nat) : Int).toNat : Nat) : Int)) = false := by simpa using h1
          exact Ex.stepN noGT kIn_ok 99 106 0 10 (ae_g2 os e (encD d) (x :: l) mo k fs.length c) rfl (.cons hd2 (.cons hge (.cons (by rw [hge]; rfl) (.cons (by rw [hge]; rfl) (.cons (by rw [hge]; rfl) (.cons (by rw [hge]; rfl) (.cons rfl (.cons rfl (.cons rfl (.cons rfl (.cons hS (.cons hL (.cons hidx (.cons hdec .nil)))))))))))))) (Ex.nil hQ)
      · have hw : wr1M ⟨d, x :: l, mo⟩ c = ⟨d, x :: l, mo⟩ := by unfold wr1M; rw [hf]; simp only; rw [if_neg (fun h => h0 h.1)]
        rw [hw] at hQ
        have hge : decide (c.2.1 ≥ 0) = false := by simpa using h0
        exact Ex.stepN noGT kIn_ok 99 106 0 10 (ae_l2 os e (encD d) (x :: l) mo k fs.length c) rfl (.cons rfl (.cons hge (.cons (by rw [hge]; rfl) (.cons (by rw [hge]; rfl) (.cons (by rw [hge]; rfl) (.cons (by rw [hge]; rfl) (.cons rfl (.cons rfl (.cons rfl (.cons rfl (.cons hS (.cons hL (.cons hidx (.cons hdec .nil)))))))))))))) (Ex.nil hQ)

theorem az_l4 : (pcs Tryd.prog 20).drop 4 = .block 2 (.loop (loopIn (nth (pcs Tryd.prog 20) 4))) :: (pcs Tryd.prog 20).drop 5 := by kernel_rfl
theorem az_l5 : (pcs Tryd.prog 20).drop 5 = [] := by kernel_rfl
theorem wr1M_emp (m : Me) (c : C4) (hn : m.od = [] → m.d = []) : (wr1M m c).od = [] → (wr1M m c).d = [] := by
  unfold wr1M
  split
  · rename_i fs hf
    split
    · intro h
      have := hn h
      rw [this] at hf; cases hf
    · exact hn
  · exact hn

/-- apply. -/
theorem ay_ok (os : List O) (e : Eff) (m : Me) (hn : m.od = [] → m.d = [] ∧ m.mo = []) (hnw : ∀ o ∈ e.nw, SmV o.2) (hsz : m.od.length + e.nw.length ≤ 100000) (hws : e.ws.length ≤ 100000) :
    FnEx Tryd.prog 20 [.pointer (some ⟨4, 0, none⟩), encE e] (memS os e m) (fun u t => u = .tuple ⟨[]⟩ ∧ t = memF os e (e.ws.foldl wr1M (e.nw.foldl new1 m)) []) := by
  refine FnEx.enter (n0 := 7) (fn := Tryd.f20) (c := bodyOf Tryd.prog 20) Tryd.func20 (by kernel_rfl) rfl (memS_next os e m) ?_
  show Ex _ _ (pcs Tryd.prog 20) _ _ _
  refine ay_first os e m hn hnw hsz ?_
  have hne : ∀ l : List O, (l.foldl new1 m).od = [] → (l.foldl new1 m).d = [] := by
    intro l
    have : ∀ (l : List O) (m : Me), (m.od = [] → m.d = []) → (l.foldl new1 m).od = [] → (l.foldl new1 m).d = [] := by
      intro l
      induction l with
      | nil => intro m h; exact h
      | cons o l ih => intro m h; exact ih _ (new1_emp m o h)
    exact this l m fun h => (hn h).1
  rw [az_l4]
  refine Ex.loop (fun n s f => ∃ p q, e.ws = p ++ q ∧ q.length = n ∧ s = ayM os e (p.foldl wr1M (e.nw.foldl new1 m)) ∧ f = azF e p.length ∧ ((p.foldl wr1M (e.nw.foldl new1 m)).od = [] → (p.foldl wr1M (e.nw.foldl new1 m)).d = [])) ?_ ⟨[], e.ws, rfl, rfl, rfl, rfl, hne _⟩
  rintro n s f ⟨p, q, hos, hm, rfl, rfl, he⟩
  cases q with
  | nil =>
    have hp : e.ws = p := by simpa using hos
    have hdec : decide (((p.length : Nat) : Int) < ((e.ws.length : Nat) : Int)) = false := by rw [hp]; simp
    have hfin : e.ws.foldl wr1M (e.nw.foldl new1 m) = p.foldl wr1M (e.nw.foldl new1 m) := by rw [← hp]
    rw [hfin]
    generalize p.foldl wr1M (e.nw.foldl new1 m) = m9
    obtain ⟨d, od, mo⟩ := m9
    cases od with
    | nil =>
      refine Ex.stepN noGT kIn_ok 99 106 0 10 (ae_y1 os e (encD d) [] mo p.length 0 (0, 0, false, 0)) rfl (.cons hdec .nil) ?_
      refine goOn.out ?_
      rw [az_l5]
      exact Ex.nil (FinQ.mk' (.inl rfl) (ae_f1 os e (encD d) [] mo 0 0 (0, 0, false, 0)) rfl .nil ⟨rfl, rfl⟩)
    | cons x l =>
      refine Ex.stepN noGT kIn_ok 99 106 0 10 (ae_y2 os e (encD d) (x :: l) mo p.length 0 (0, 0, false, 0)) rfl (.cons hdec .nil) ?_
      refine goOn.out ?_
      rw [az_l5]
      exact Ex.nil (FinQ.mk' (.inl rfl) (ae_f2 os e (encD d) (x :: l) mo 0 0 (0, 0, false, 0)) rfl .nil ⟨rfl, rfl⟩)
  | cons c q =>
    have hk : e.ws[p.length]? = some c := by rw [hos]; exact at_split p c q
    have hlt : p.length < e.ws.length := by rw [hos]; simp
    show Ex Tryd.prog 7 body2 _ _ _
    refine az_round os e _ p.length c hk he ?_
    have hw : IntKind.wrap IntKind.i64 ((p.length : Int) + 1) = ((p ++ [c]).length : Int) := by
      rw [IntWalk.i64_in _ (by omega)]; simp
    rw [hw]
    refine ⟨n - 1, by simp at hm; omega, p ++ [c], q, by simp [hos], by simp at hm; omega, ?_, rfl, ?_⟩
    · rw [List.foldl_append]; rfl
    · rw [List.foldl_append]; exact wr1M_emp _ _ he

end Go.Proofs.MA
