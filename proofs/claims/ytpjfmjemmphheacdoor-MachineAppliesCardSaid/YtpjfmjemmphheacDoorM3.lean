/- MachineApplies: the reference: Apply. Conditions: none. -/
import Derived.Test.YtpjfmjemmphheacDoorM2
set_option linter.all false
set_option linter.unusedVariables false
set_option linter.unusedSimpArgs false
namespace Go.Proofs.MA
open Go Go.Hx Go.RowKit Go.Proofs
set_option maxRecDepth 100000

/-- A cell with its value; an effect. -/
abbrev C4 := Int × Int × V
def encC (c : C4) : Value := .agg ⟨[.int .i64 c.1, .int .i64 c.2.1, .bool c.2.2.1, .int .i64 c.2.2.2]⟩
structure Eff where
  kd : Int
  pc : Int
  rg : Nat → V
  rd : List Value
  ws : List C4
  nw : List O
  dl : List Value
  ac : List Value
  st : Int
  th : Bool
  v : V
def regsE (rg : Nat → V) : Nat → List Value
  | 0 => []
  | n + 1 => regsE rg n ++ [.bool (rg n).1, .int .i64 (rg n).2]
def cellsE (e : Eff) : List Value := .int .i64 e.kd :: .int .i64 e.pc :: (regsE e.rg 16 ++ [frz e.rd, frz (e.ws.map encC), encOs e.nw, frz e.dl, frz e.ac, .int .i64 e.st, .bool e.th, .bool e.v.1, .int .i64 e.v.2])
def encE (e : Eff) : Value := .agg ⟨cellsE e⟩

def SmB (n : Nat) (os : List O) : Prop := os.length ≤ n ∧ ∀ o ∈ os, SmV o.2

def kAp : HCall := specK [(22, relPu), (23, relWr)]
theorem kAp_ok : CallOK Tryd.prog kAp := specK_ok fun g rel hm args v h _ _ => by
  simp only [List.mem_cons, Prod.mk.injEq, List.mem_nil_iff, or_false] at hm
  rcases hm with ⟨rfl, rfl⟩ | ⟨rfl, rfl⟩
  · exact relPu_ok args v h
  · exact relWr_ok args v h

/-! ### Apply -/
def apS (os : List O) (e : Eff) : St := mkSt [(0, .row false [encOs os] 35), (1, .row false (cellsE e) 33), (2, .row false [frz []] 35)] 3 0
def apF (l : List (Nat × Value)) : HF := mkF ([(2, .pointer (some ⟨0, 0, none⟩)), (3, .pointer (some ⟨1, 0, none⟩)), (4, .pointer (some ⟨2, 0, none⟩))] ++ l) 48

theorem ap_a (os : List O) (e : Eff) : hrun Tryd.prog kAp 5 ((pcs Tryd.prog 10).take 3) St0 (entF [encH os, encE e] 48) [true] [] ⟨[(0, 0, false), (1, 1, false), (2, 2, false)], [], [2, 3, 4, 16, 17, 18], 3, 0, true⟩ =
    some (HX.normal, [(0, HObj.row false [frz ([])] 35), (1, HObj.row false (cellsE e) 33), (2, HObj.row false [frz ([])] 35)], [(2, Value.pointer (some { block := 0, off := 0 })), (3, Value.pointer (some { block := 1, off := 0 })), (4, Value.pointer (some { block := 2, off := 0 })), (16, frz (List.map encO e.nw)), (17, Value.int IntKind.i64 ↑(List.length (List.map encO e.nw))), (18, Value.int IntKind.i64 0)], [Nat.beq (List.length (List.map encO os)) 0 = true]) := by kernel_rfl

theorem ap_b (os : List O) (e : Eff) : hrun Tryd.prog kAp 5 ((pcs Tryd.prog 10).take 3) St0 (entF [encH os, encE e] 48) [false] [] ⟨[(0, 0, false), (1, 1, false), (2, 2, false)], [(3, 2, os.map encO)], [2, 3, 4, 16, 17, 18], 3, 0, true⟩ =
    some (HX.normal, [(0, HObj.row false [frz (List.map encO os)] 35), (1, HObj.row false (cellsE e) 33), (2, HObj.row false [frz ([])] 35)], [(2, Value.pointer (some { block := 0, off := 0 })), (3, Value.pointer (some { block := 1, off := 0 })), (4, Value.pointer (some { block := 2, off := 0 })), (16, frz (List.map encO e.nw)), (17, Value.int IntKind.i64 ↑(List.length (List.map encO e.nw))), (18, Value.int IntKind.i64 0)], [(Nat.ble ((0 + List.length (List.map encO os)) * 32) 140737488355328 && Nat.ble (0 + List.length (List.map encO os)) 4611686018427387904) = true, ∀ (v : Value), v ∈ List.map encO os → Array.size (Value.cells v) = 2, Nat.beq (List.length (List.map encO os)) 0 = false, flatV (List.map encO os) = flatV (List.map encO os) ∧ (∀ (v : Value), v ∈ List.map encO os → Array.size (Value.cells v) = 2) ∧ 0 < 2, List.length (List.map encO os) = List.length (List.map encO os)]) := by kernel_rfl

theorem ap_r (os : List O) (e : Eff) (k : Int) (o : O) (u : List O) : hrun Tryd.prog kAp 5 (flatC (loopIn (nth (pcs Tryd.prog 10) 3))) (apS os e) (apF [(16, encOs e.nw), (17, .int .i64 e.nw.length), (18, .int .i64 k)]) [true] [[encO o], [encH u]] ⟨[(0, 0, false), (1, 1, false), (2, 2, false)], [], [2, 3, 4, 16, 17, 18], 3, 0, true⟩ =
    some (HX.normal, [(0, HObj.row false [frz (List.map encO u)] 35), (1, HObj.row false (cellsE e) 33), (2, HObj.row false [frz ([])] 35)], [(2, Value.pointer (some { block := 0, off := 0 })), (3, Value.pointer (some { block := 1, off := 0 })), (4, Value.pointer (some { block := 2, off := 0 })), (16, frz (List.map encO e.nw)), (17, Value.int IntKind.i64 ↑(List.length e.nw)), (18, Value.int IntKind.i64 (IntKind.wrap IntKind.i64 (k + 1)))], [relPu [Value.agg { toList := [frz (List.map encO os)] }, Value.agg { toList := [Value.int IntKind.i64 o.fst, frz (List.map encV o.snd)] }] (Value.agg { toList := [frz (List.map encO u)] }), 0 ≤ k ∧ (List.map encO e.nw)[Int.toNat k]? = some (Value.agg { toList := [Value.int IntKind.i64 o.fst, frz (List.map encV o.snd)] }), decide (k < ↑(List.length e.nw)) = true]) := by kernel_rfl

theorem ap_x (os : List O) (e : Eff) (k : Int) : hrun Tryd.prog kAp 5 (flatC (loopIn (nth (pcs Tryd.prog 10) 3))) (apS os e) (apF [(16, encOs e.nw), (17, .int .i64 e.nw.length), (18, .int .i64 k)]) [false] [] ⟨[(0, 0, false), (1, 1, false), (2, 2, false)], [], [2, 3, 4], 3, 0, true⟩ =
    some (HX.exit 0, [(0, HObj.row false [frz (List.map encO os)] 35), (1, HObj.row false (cellsE e) 33), (2, HObj.row false [frz ([])] 35)], [(2, Value.pointer (some { block := 0, off := 0 })), (3, Value.pointer (some { block := 1, off := 0 })), (4, Value.pointer (some { block := 2, off := 0 }))], [decide (k < ↑(List.length e.nw)) = false]) := by kernel_rfl

theorem ap_c (os : List O) (e : Eff) : hrun Tryd.prog kAp 5 (((pcs Tryd.prog 10).drop 4).take 1) (apS os e) (apF []) [] [] ⟨[(0, 0, false), (1, 1, false), (2, 2, false)], [], [2, 3, 4, 27, 28, 29], 3, 0, true⟩ =
    some (HX.normal, [(0, HObj.row false [frz (List.map encO os)] 35), (1, HObj.row false (cellsE e) 33), (2, HObj.row false [frz ([])] 35)], [(2, Value.pointer (some { block := 0, off := 0 })), (3, Value.pointer (some { block := 1, off := 0 })), (4, Value.pointer (some { block := 2, off := 0 })), (27, frz (List.map encC e.ws)), (28, Value.int IntKind.i64 ↑(List.length (List.map encC e.ws))), (29, Value.int IntKind.i64 0)], []) := by kernel_rfl

theorem ap_s (os : List O) (e : Eff) (k : Int) (c : C4) (u : List O) : hrun Tryd.prog kAp 5 (flatC (loopIn (nth (pcs Tryd.prog 10) 5))) (apS os e) (apF [(27, frz (e.ws.map encC)), (28, .int .i64 e.ws.length), (29, .int .i64 k)]) [true, true] [[encC c], [.tuple ⟨[encH u, .bool true]⟩]] ⟨[(0, 0, false), (1, 1, false), (2, 2, false)], [], [2, 3, 4, 27, 28, 29], 3, 0, true⟩ =
    some (HX.normal, [(0, HObj.row false [frz (List.map encO u)] 35), (1, HObj.row false (cellsE e) 33), (2, HObj.row false [frz ([])] 35)], [(2, Value.pointer (some { block := 0, off := 0 })), (3, Value.pointer (some { block := 1, off := 0 })), (4, Value.pointer (some { block := 2, off := 0 })), (27, frz (List.map encC e.ws)), (28, Value.int IntKind.i64 ↑(List.length e.ws)), (29, Value.int IntKind.i64 (IntKind.wrap IntKind.i64 (k + 1)))], [true = true, relWr [Value.agg { toList := [frz (List.map encO os)] }, Value.int IntKind.i64 c.fst, Value.int IntKind.i64 c.snd.fst, Value.agg { toList := [Value.bool c.snd.snd.fst, Value.int IntKind.i64 c.snd.snd.snd] }] (Value.tuple { toList := [Value.agg { toList := [frz (List.map encO u)] }, Value.bool true] }), 0 ≤ k ∧ (List.map encC e.ws)[Int.toNat k]? = some (Value.agg { toList := [Value.int IntKind.i64 c.fst, Value.int IntKind.i64 c.snd.fst, Value.bool c.snd.snd.fst, Value.int IntKind.i64 c.snd.snd.snd] }), decide (k < ↑(List.length e.ws)) = true]) := by kernel_rfl

theorem ap_t (os : List O) (e : Eff) (k : Int) (c : C4) (u : List O) : hrun Tryd.prog kAp 5 (flatC (loopIn (nth (pcs Tryd.prog 10) 5))) (apS os e) (apF [(27, frz (e.ws.map encC)), (28, .int .i64 e.ws.length), (29, .int .i64 k)]) [true, false] [[encC c], [.tuple ⟨[encH u, .bool false]⟩]] ⟨[(0, 0, false), (1, 1, false), (2, 2, false)], [], [2, 3, 4, 27, 28, 29], 3, 0, true⟩ =
    some (HX.normal, [(0, HObj.row false [frz (List.map encO os)] 35), (1, HObj.row false (cellsE e) 33), (2, HObj.row false [frz ([])] 35)], [(2, Value.pointer (some { block := 0, off := 0 })), (3, Value.pointer (some { block := 1, off := 0 })), (4, Value.pointer (some { block := 2, off := 0 })), (27, frz (List.map encC e.ws)), (28, Value.int IntKind.i64 ↑(List.length e.ws)), (29, Value.int IntKind.i64 (IntKind.wrap IntKind.i64 (k + 1)))], [false = false, relWr [Value.agg { toList := [frz (List.map encO os)] }, Value.int IntKind.i64 c.fst, Value.int IntKind.i64 c.snd.fst, Value.agg { toList := [Value.bool c.snd.snd.fst, Value.int IntKind.i64 c.snd.snd.snd] }] (Value.tuple { toList := [Value.agg { toList := [frz (List.map encO u)] }, Value.bool false] }), 0 ≤ k ∧ (List.map encC e.ws)[Int.toNat k]? = some (Value.agg { toList := [Value.int IntKind.i64 c.fst, Value.int IntKind.i64 c.snd.fst, Value.bool c.snd.snd.fst, Value.int IntKind.i64 c.snd.snd.snd] }), decide (k < ↑(List.length e.ws)) = true]) := by kernel_rfl

theorem ap_y (os : List O) (e : Eff) (k : Int) : hrun Tryd.prog kAp 5 (flatC (loopIn (nth (pcs Tryd.prog 10) 5))) (apS os e) (apF [(27, frz (e.ws.map encC)), (28, .int .i64 e.ws.length), (29, .int .i64 k)]) [false] [] ⟨[(0, 0, false), (1, 1, false), (2, 2, false)], [], [2, 3, 4], 3, 0, true⟩ =
    some (HX.exit 2, [(0, HObj.row false [frz (List.map encO os)] 35), (1, HObj.row false (cellsE e) 33), (2, HObj.row false [frz ([])] 35)], [(2, Value.pointer (some { block := 0, off := 0 })), (3, Value.pointer (some { block := 1, off := 0 })), (4, Value.pointer (some { block := 2, off := 0 }))], [decide (k < ↑(List.length e.ws)) = false]) := by kernel_rfl

theorem ap_d (os : List O) (e : Eff) : hrun Tryd.prog kAp 5 ((pcs Tryd.prog 10).drop 6) (apS os e) (apF []) [] [] ⟨[(2, 0, false)], [], [4], 1, 0, true⟩ =
    some (HX.ret, [(0, HObj.row false [frz (List.map encO os)] 35)], [(4, Value.pointer (some { block := 0, off := 0 }))], []) := by kernel_rfl

theorem ap_f (os : List O) : hfin Tryd.prog Tryd.f10 (mkSt [(0, .row false [encOs os] 35)] 1 0) (mkF [(4, .pointer (some ⟨0, 0, none⟩))] 48) [] ⟨[], [], [], 0, 0, false⟩ =
    some (Value.agg { toList := [frz (List.map encO os)] }, [], []) := by kernel_rfl


theorem SmB.smo {n : Nat} {os : List O} (h : SmB n os) (hn : n ≤ 100000) : SmO os := ⟨Nat.le_trans h.1 hn, h.2⟩
theorem putO_smb {n : Nat} {os : List O} {o : O} (h : SmB n os) (ho : SmV o.2) : SmB (n + 1) (putO os o) := by
  have key : ∀ k l : Nat, k ≤ l → SmB (n + 1) (os.take k ++ o :: os.drop l) := fun k l hkl => by
    refine ⟨?_, fun x hx => ?_⟩
    · have := h.1
      simp; omega
    · simp only [List.mem_append, List.mem_cons] at hx
      rcases hx with hx | rfl | hx
      · exact h.2 x (List.mem_of_mem_take hx)
      · exact ho
      · exact h.2 x (List.mem_of_mem_drop hx)
  unfold putO
  split
  · exact key _ _ (by omega)
  · exact key _ _ (by omega)
theorem wrO_smb {n : Nat} {os : List O} {id f : Int} {v : V} (h : SmB n os) : SmB n (wrO os id f v) := by
  unfold wrO
  split
  · rename_i o ho
    have hm : o ∈ os := List.mem_of_find?_eq_some ho
    refine ⟨by simpa using h.1, fun x hx => ?_⟩
    rcases List.mem_or_eq_of_mem_set hx with hx | rfl
    · exact h.2 x hx
    · have := h.2 o hm
      unfold SmV at this ⊢
      simpa using this
  · exact h
def wr1 (os : List O) (c : C4) : List O := if (rdI os c.1 c.2.1).isSome then wrO os c.1 c.2.1 c.2.2 else os
theorem wr1_smb {n : Nat} {os : List O} {c : C4} (h : SmB n os) : SmB n (wr1 os c) := by
  unfold wr1
  split
  · exact wrO_smb h
  · exact h
def apO (os : List O) (e : Eff) : List O := e.ws.foldl wr1 (e.nw.foldl putO os)

theorem ap_l3 : (pcs Tryd.prog 10).drop 3 = .block 0 (.loop (loopIn (nth (pcs Tryd.prog 10) 3))) :: (pcs Tryd.prog 10).drop 4 := by kernel_rfl
theorem ap_l5 : (pcs Tryd.prog 10).drop 5 = .block 2 (.loop (loopIn (nth (pcs Tryd.prog 10) 5))) :: (pcs Tryd.prog 10).drop 6 := by kernel_rfl

theorem ap_ok (os : List O) (e : Eff) (n : Nat) (hl : SmB n os) (hn : n + e.nw.length ≤ 100000) (hnw : ∀ o ∈ e.nw, SmV o.2) (hws : e.ws.length ≤ 100000) : FnEx Tryd.prog 10 [encH os, encE e] St0 (fun u _ => u = encH (apO os e)) := by
  refine FnEx.enter (n0 := 0) (fn := Tryd.f10) (c := bodyOf Tryd.prog 10) Tryd.func10 (by kernel_rfl) rfl rfl ?_
  show Ex _ _ (pcs Tryd.prog 10) _ _ _
  have hl1 := hl.1
  have hen : (List.map encO os).length = os.length := List.length_map ..
  have hnl : (List.map encO e.nw).length = e.nw.length := List.length_map ..
  have hwl : (List.map encC e.ws).length = e.ws.length := List.length_map ..
  have main : Ex Tryd.prog 0 ((pcs Tryd.prog 10).drop 3) (apS os e) (apF [(16, encOs e.nw), (17, .int .i64 e.nw.length), (18, .int .i64 0)]) (FinQ Tryd.prog Tryd.f10 0 (fun u _ => u = encH (apO os e))) := by
    rw [ap_l3]
    have main2 : ∀ os1 : List O, SmB 100000 os1 → Ex Tryd.prog 0 ((pcs Tryd.prog 10).drop 4) (apS os1 e) (apF []) (FinQ Tryd.prog Tryd.f10 0 (fun u _ => u = encH (e.ws.foldl wr1 os1))) := by
      intro os1 h1
      refine Ex.stepN noGT kAp_ok 1 48 0 3 (ap_c os1 e) rfl .nil ?_
      rw [hwl]
      show Ex _ _ ((pcs Tryd.prog 10).drop 5) (apS os1 e) (apF [(27, frz (e.ws.map encC)), (28, .int .i64 e.ws.length), (29, .int .i64 0)]) _
      rw [ap_l5]
      refine Ex.loop (fun m s f => ∃ p q, e.ws = p ++ q ∧ q.length = m ∧ s = apS (p.foldl wr1 os1) e ∧ SmB 100000 (p.foldl wr1 os1) ∧ f = apF [(27, frz (e.ws.map encC)), (28, .int .i64 e.ws.length), (29, .int .i64 p.length)]) ?_ ⟨[], e.ws, rfl, rfl, rfl, h1, rfl⟩
      rintro m s f ⟨p, q, hos, hm, rfl, hb, rfl⟩
      cases q with
      | nil =>
        have : e.ws = p := by simpa using hos
        refine Ex.stepN noGT kAp_ok 99 48 0 3 (ap_y (p.foldl wr1 os1) e p.length) rfl (.cons (by simp [this]) .nil) ?_
        refine goOn.out ?_
        refine Ex.stepN noGT kAp_ok 99 48 0 1 (ap_d (p.foldl wr1 os1) e) rfl .nil ?_
        exact FinQ.mk' (.inr rfl) (ap_f (p.foldl wr1 os1)) rfl .nil (by rw [this]; rfl)
      | cons c q =>
        have hk : e.ws[p.length]? = some c := by rw [hos]; exact at_split p c q
        have hlt : p.length < e.ws.length := by rw [hos]; simp
        have hC : 0 ≤ ((p.length : Nat) : Int) ∧ (e.ws.map encC)[((p.length : Nat) : Int).toNat]? = some (encC c) := ⟨by omega, map_at hk⟩
        have hd : decide (((p.length : Nat) : Int) < ((e.ws.length : Nat) : Int)) = true := by simp; omega
        have hw : IntKind.wrap IntKind.i64 ((p.length : Int) + 1) = ((p ++ [c]).length : Int) := by
          rw [IntWalk.i64_in _ (by omega)]; simp
        have fin : rndQ Tryd.prog 0 2 ((pcs Tryd.prog 10).drop 6) (FinQ Tryd.prog Tryd.f10 0 (fun u _ => u = encH (e.ws.foldl wr1 os1))) (fun m s f => ∃ p q, e.ws = p ++ q ∧ q.length = m ∧ s = apS (p.foldl wr1 os1) e ∧ SmB 100000 (p.foldl wr1 os1) ∧ f = apF [(27, frz (e.ws.map encC)), (28, .int .i64 e.ws.length), (29, .int .i64 p.length)]) m .normal
            (apS ((p ++ [c]).foldl wr1 os1) e) (apF [(27, frz (e.ws.map encC)), (28, .int .i64 e.ws.length), (29, .int .i64 (IntKind.wrap IntKind.i64 ((p.length : Int) + 1)))]) := by
          rw [hw]
          refine ⟨m - 1, by simp at hm; omega, p ++ [c], q, by simp [hos], by simp at hm; omega, rfl, ?_, rfl⟩
          rw [List.foldl_append]
          exact wr1_smb hb
        cases hr : rdI (p.foldl wr1 os1) c.1 c.2.1 with
        | none =>
          have hW : relWr [encH (p.foldl wr1 os1), .int .i64 c.1, .int .i64 c.2.1, encV c.2.2] (.tuple ⟨[encH [], .bool false]⟩) := ⟨_, _, _, _, hb.smo (by omega), rfl, by simp [wrV, hr]⟩
          refine Ex.stepN noGT kAp_ok 99 48 0 3 (ap_t (p.foldl wr1 os1) e p.length c []) rfl (.cons rfl (.cons hW (.cons hC (.cons hd .nil)))) ?_
          refine Ex.nil ?_
          rw [List.foldl_append] at fin
          have : wr1 (p.foldl wr1 os1) c = p.foldl wr1 os1 := by simp [wr1, hr]
          simp only [List.foldl_cons, List.foldl_nil, this] at fin
          exact fin
        | some w =>
          have hW : relWr [encH (p.foldl wr1 os1), .int .i64 c.1, .int .i64 c.2.1, encV c.2.2] (.tuple ⟨[encH (wrO (p.foldl wr1 os1) c.1 c.2.1 c.2.2), .bool true]⟩) := ⟨_, _, _, _, hb.smo (by omega), rfl, by simp [wrV, hr]⟩
          refine Ex.stepN noGT kAp_ok 99 48 0 3 (ap_s (p.foldl wr1 os1) e p.length c (wrO (p.foldl wr1 os1) c.1 c.2.1 c.2.2)) rfl (.cons rfl (.cons hW (.cons hC (.cons hd .nil)))) ?_
          refine Ex.nil ?_
          rw [List.foldl_append] at fin
          have : wr1 (p.foldl wr1 os1) c = wrO (p.foldl wr1 os1) c.1 c.2.1 c.2.2 := by simp [wr1, hr]
          simp only [List.foldl_cons, List.foldl_nil, this] at fin
          exact fin
    refine Ex.loop (fun m s f => ∃ p q, e.nw = p ++ q ∧ q.length = m ∧ s = apS (p.foldl putO os) e ∧ SmB (n + p.length) (p.foldl putO os) ∧ f = apF [(16, encOs e.nw), (17, .int .i64 e.nw.length), (18, .int .i64 p.length)]) ?_ ⟨[], e.nw, rfl, rfl, rfl, hl, rfl⟩
    rintro m s f ⟨p, q, hos, hm, rfl, hb, rfl⟩
    cases q with
    | nil =>
      have : e.nw = p := by simpa using hos
      refine Ex.stepN noGT kAp_ok 99 48 0 3 (ap_x (p.foldl putO os) e p.length) rfl (.cons (by simp [this]) .nil) ?_
      refine goOn.out ?_
      have hpl : p.length = e.nw.length := by rw [this]
      have := main2 (p.foldl putO os) ⟨by have := hb.1; omega, hb.2⟩
      have h9 : apO os e = e.ws.foldl wr1 (p.foldl putO os) := by unfold apO; rw [show e.nw = p by simpa using hos]
      rw [h9]
      exact this
    | cons o q =>
      have hk : e.nw[p.length]? = some o := by rw [hos]; exact at_split p o q
      have hlt : p.length < e.nw.length := by rw [hos]; simp
      have ho : SmV o.2 := hnw o (by rw [hos]; simp)
      have hC : 0 ≤ ((p.length : Nat) : Int) ∧ (e.nw.map encO)[((p.length : Nat) : Int).toNat]? = some (encO o) := ⟨by omega, map_at hk⟩
      have hd : decide (((p.length : Nat) : Int) < ((e.nw.length : Nat) : Int)) = true := by simp; omega
      have hW : relPu [encH (p.foldl putO os), encO o] (encH (putO (p.foldl putO os) o)) := ⟨_, _, hb.smo (by omega), ho, rfl, rfl⟩
      refine Ex.stepN noGT kAp_ok 99 48 0 3 (ap_r (p.foldl putO os) e p.length o (putO (p.foldl putO os) o)) rfl (.cons hW (.cons hC (.cons hd .nil))) ?_
      refine Ex.nil ⟨m - 1, by simp at hm; omega, p ++ [o], q, by simp [hos], by simp at hm; omega, ?_, ?_, ?_⟩
      · rw [List.foldl_append]; rfl
      · rw [List.foldl_append, List.length_append]
        exact putO_smb hb ho
      · have hw : IntKind.wrap IntKind.i64 ((p.length : Int) + 1) = ((p ++ [o]).length : Int) := by
          rw [IntWalk.i64_in _ (by omega)]; simp
        rw [hw]
        rfl
  by_cases h0 : os.length = 0
  · have h0 : os = [] := List.length_eq_zero_iff.1 h0
    subst h0
    refine Ex.stepN noGT kAp_ok 3 48 0 3 (ap_a [] e) rfl (.cons rfl .nil) ?_
    rw [hnl]
    exact main
  · refine Ex.stepN noGT kAp_ok 3 48 0 3 (ap_b os e) rfl ?_ ?_
    · rw [hen]
      exact .cons (apOK (by omega) (by omega)) (.cons (flatV_encO os) (.cons (beqF h0) (.cons ⟨rfl, flatV_encO _, by omega⟩ (.cons rfl .nil))))
    rw [hnl]
    exact main

end Go.Proofs.MA
