/- MachineApplies returns true for every input, and changes none of its arguments. Conditions: those of its row: value.units and code.table read as the row lists them; value.operators may be anything. -/
import Derived.Test.YtpjfmjemmphheacDoorRows
import Derived.Test.YtpjfmjemmphheacDoorTie
import Derived.Test.YtpjfmjemmphheacDoorCards
import Derived.Test.YtpjfmjemmphheacDoorS3
import Derived.ProofKit
import Derived.Carry
import Derived.LaidMore
import Derived.OpenShut
import Derived.OpenVars
import Derived.Stop.Joined
import Derived.SevenTiedAt
set_option linter.all false
set_option linter.constructorNameAsVariable false
set_option maxRecDepth 100000
namespace Go.Proofs.YtpjfmjemmphheacDoor
open Go.ChangeShapes Go.WideShapes Go.ChangeAt Go.WideMaps Go.WideElems Go.RowKit Go.Hx

theorem own : ownKnob Tryd.prog.godebug = none := by kernel_rfl
theorem laidOut : laidOutB Tryd.prog = true := by kernel_rfl

/-- The door's own heap meets the condition: three closed facts. -/
theorem door_met (os : Os) (args : Array Value) : laidMetH Tryd.prog Rows.machineAppliesRow.laid ((World.doorLaid Tryd.prog 400 os).forCall (fun _ _ => 0) ⟨#[], args, []⟩).memory :=
  laidMetH_of_parts3 (fuel := 8) (laidMet_of_run' 8 (by kernel_rfl) (by kernel_rfl)) (by kernel_rfl) (by kernel_rfl)

theorem kd144 : kdOf Tryd.prog 8 144 = some (List.replicate 88 (.i .i64)) := by kernel_rfl
theorem table_named : Tryd.prog.globalNamed "speculate/code.table" = some 0 := by kernel_rfl
theorem table_type : (Tryd.prog.globals[0]?).map (·.type) = some 144 := by kernel_rfl
theorem table_dat : datC 8 (Rows.laid_speculate_code_table (H := Unit)) = MA.tableV := by kernel_rfl
theorem table_cells {W : World} (h : laidMetH Tryd.prog Rows.machineAppliesRow.laid W) (j : Nat) (v : Value) (hj : MA.tableV[j]? = some v) : W.cell? ⟨0, j, none⟩ = some v := by
  have hl : laidMet Tryd.prog Rows.machineAppliesRow.laid W := h
  obtain ⟨ps, hps, _⟩ := hl
  exact laid_cells hps (name := "speculate/code.table") (dat := Rows.laid_speculate_code_table) (List.mem_cons_of_mem _ (List.mem_cons_self ..)) table_named table_type kd144 (by kernel_rfl) j v (by rw [table_dat]; exact hj)

def zeroV : Value := .agg #[.bool false, .int .i64 0]
def zeroEff : Value := .agg (#[.int .i64 0, .int .i64 0] ++ (List.replicate 16 [Value.bool false, .int .i64 0]).flatten.toArray ++ #[.slice none 0 0, .slice none 0 0, .slice none 0 0, .slice none 0 0, .slice none 0 0, .int .i64 0, .bool false, .bool false, .int .i64 0])
def zeroHeap : Value := .agg #[.slice none 0 0]
def zeroOut : Value := .agg #[.slice none 0 0, .bool false, .bool false, .int .i64 0, .slice none 0 0]

theorem struct33 : ∃ fs, Tryd.prog.underlying 33 = some (.struct fs) := ⟨_, Tryd.underlying33⟩
theorem struct35 : ∃ fs, Tryd.prog.underlying 35 = some (.struct fs) := ⟨_, Tryd.underlying35⟩
theorem struct37 : ∃ fs, Tryd.prog.underlying 37 = some (.struct fs) := ⟨_, Tryd.underlying37⟩
theorem wide_struct {W : World} {r : Reach} {b : Nat} {t : TypeId} {v : Value} (hs : ∃ fs, Tryd.prog.underlying t = some (.struct fs)) (h : Value.okWide Tryd.prog W r b t v) : ∃ cs, v = .agg cs := by
  obtain ⟨fs, hs⟩ := hs
  unfold Value.okWide at h
  simp only [hs] at h
  obtain ⟨cs, hv, _⟩ := h
  exact ⟨cs, hv⟩


theorem wide_slice {W : World} {r : Reach} {b : Nat} {v : Value} (h : Value.okWide Tryd.prog W r b 22 v) : v.cells.toList = [v] := by
  cases v with
  | agg cs =>
    exfalso
    unfold Value.okWide at h
    simp only [Tryd.underlying22] at h
    unfold Cell.okWide at h
    simp only [Tryd.underlying22] at h
    unfold Cell.ok at h
    simp only [Tryd.underlying22] at h
  | _ => rfl

theorem lifted (os : Os) (started : os.Started) (H : Type) (enc : TypeId × Value → H) :
    ReturnsInHanded {} Tryd.checked os 3 .any (fun w args => (Rows.machineAppliesSpec.pre enc Tryd.prog Tryd.f3 [] false w args ∧ laidMetH Tryd.prog Rows.machineAppliesRow.laid w) ∧ sizedMet enc Tryd.prog Tryd.f3 (OpenSpec.ofChange Rows.machineAppliesSpec) false w args)
      (Rows.machineAppliesSpec.post enc Tryd.prog Tryd.f3 false true false false) := by
  refine returnsInHanded_of_change_and (C := Tryd.checked) (X := fun w _ => laidMetH Tryd.prog Rows.machineAppliesRow.laid w) (fun _ _ _ hh h => h.of_heap hh) own started (by kernel_rfl) Tryd.func3
    (ChangeSpec.witness_shaped (enc := enc) (C := Tryd.checked) (os := os) (X := fun w _ => laidMetH Tryd.prog Rows.machineAppliesRow.laid w) false (World.doorLaid Tryd.prog 400 os) #[.slice none 0 0, zeroEff, zeroHeap, zeroOut, zeroOut] 8 rfl (World.shaped_of_RefB (by kernel_rfl) (by kernel_rfl)) (by kernel_rfl) (by kernel_rfl) (by kernel_rfl) (door_met os _)) ?_
  intro W base args ds gs before hval0 hW _ hsz hx _
  have hx : laidMetH Tryd.prog Rows.machineAppliesRow.laid W := hx
  have hval : ∀ (j : Nat) t v, Tryd.f3.params[j]? = some t → args[j]? = some v → Value.okWide Tryd.prog W .any base t v := hval0
  have hW' := hW
  obtain ⟨p, q, hA0, hV, rfl, hfz, hnd⟩ := hW
  have hA : DataW.TrodAll enc Tryd.prog W 0 (fun _ => true) true Tryd.f3.params.toList args.toList ds p := hA0
  have hsz' : (DataW.weightsEach Tryd.prog (Tryd.f3.params.toList ++ Rows.machineAppliesSpec.plain.varTypes Tryd.prog) (ds ++ gs)).all (· ≤ reachBytes) = true := hsz
  obtain ⟨rfl, rfl⟩ := trodVars_none hV
  rw [Tryd.params3] at hA hval hsz'
  obtain ⟨v0, l0, d0, r0, p0, q0, ha0, rfl, rfl, t0, hA⟩ := trodAll_cons hA
  obtain ⟨v1, l1, d1, r1, p1, q1, rfl, rfl, rfl, t1, hA⟩ := trodAll_cons hA
  obtain ⟨v2, l2, d2, r2, p2, q2, rfl, rfl, rfl, t2, hA⟩ := trodAll_cons hA
  obtain ⟨v3, l3, d3, r3, p3, q3, rfl, rfl, rfl, t3, hA⟩ := trodAll_cons hA
  obtain ⟨v4, l4, d4, r4, p4, q4, rfl, rfl, rfl, t4, hA⟩ := trodAll_cons hA
  obtain ⟨rfl, rfl, rfl⟩ := trodAll_nil hA
  obtain rfl : args = #[v0, v1, v2, v3, v4] := by cases args; simp_all
  have hsm : ∀ (j : Nat) (t : TypeId) (d : DataW H), [22, 33, 35, 37, 37][j]? = some t → [d0, d1, d2, d3, d4][j]? = some d → small Tryd.prog t d := fun j t d ht hd n hn => by
    have := List.all_eq_true.1 hsz' n (mem_each (j := j) (t := t) (d := d) (by rw [List.getElem?_append_left (List.getElem?_eq_some_iff.1 ht).1]; exact ht) (by rw [List.append_nil]; exact hd) hn)
    simpa using this
  obtain ⟨c1, rfl⟩ := wide_struct struct33 (hval 1 33 v1 rfl rfl)
  obtain ⟨c2, rfl⟩ := wide_struct struct35 (hval 2 35 v2 rfl rfl)
  obtain ⟨c3, rfl⟩ := wide_struct struct37 (hval 3 37 v3 rfl rfl)
  obtain ⟨c4, rfl⟩ := wide_struct struct37 (hval 4 37 v4 rfl rfl)
  obtain ⟨f0, g0⟩ := t0
  obtain ⟨f1, g1⟩ := t1
  obtain ⟨f2, g2⟩ := t2
  obtain ⟨f3, g3⟩ := t3
  obtain ⟨f4, g4⟩ := t4
  have k0 := trod_kd 4 f0 22 _ _ _ MA.kd22 g0 (hsm 0 22 d0 rfl rfl)
  have k1 := trod_kd 8 f1 33 _ _ _ MA.kd33 g1 (hsm 1 33 d1 rfl rfl)
  have k2 := trod_kd 4 f2 35 _ _ _ MA.kd35 g2 (hsm 2 35 d2 rfl rfl)
  have k3 := trod_kd 4 f3 37 _ _ _ MA.kd37 g3 (hsm 3 37 d3 rfl rfl)
  have k4 := trod_kd 4 f4 37 _ _ _ MA.kd37 g4 (hsm 4 37 d4 rfl rfl)
  have k0' : KdAt enc Tryd.prog W 0 (fun _ => true) true (.s 22) v0 := by
    have hc : v0.cells.toList = [v0] := wide_slice (hval 0 22 v0 rfl rfl)
    exact k0.2 0 (.s 22) v0 rfl (by rw [hc]; rfl)
  simp only [List.append_nil] at hW'
  have hlt : ∀ x ∈ p0 ++ (p1 ++ (p2 ++ (p3 ++ (p4 ++ [])))), x.block < W.heap.size := fun x hx => by simpa using hW'.lt x (by simpa using hx)
  refine (MA.law_calls (table_cells hx) k0' k1 k2 k3 k4).mono fun e W' ⟨he, hb⟩ => ?_
  subst he
  have sub : ∀ (t : TypeId) (v : Value) (d : DataW H) (ps : List MemPlace), Tryd.prog.readableRec t = true → t < Tryd.prog.types.size → DataW.Trod enc Tryd.prog W 0 (fun _ => true) true t v d ps → (∀ x ∈ ps, x ∈ p0 ++ (p1 ++ (p2 ++ (p3 ++ (p4 ++ []))))) →
      DataW.Trod enc Tryd.prog W' 0 (fun b => decide (b < W.heap.size)) true t v d ps := fun t v d ps h1 h2 h3 h4 => Below.trod laidOut h1 h2 h3 hb fun x hx => hlt x (h4 x hx)
  refine ⟨_, rfl, [d0, d1, d2, d3, d4], [], _, [], p0 ++ (p1 ++ (p2 ++ (p3 ++ (p4 ++ [])))), [], hW', trodAll_mk1 (shut_bool Tryd.underlying4 _), ?_, hb.trodVars laidOut (by kernel_rfl) hV, hb.frame _, fun h => by cases h⟩
  exact trodAll_cons_mk (sub 22 v0 d0 p0 (by kernel_rfl) (of_decide_eq_true (by kernel_rfl)) ⟨f0, g0⟩ (fun x hx => by simp [hx]))
    (trodAll_cons_mk (sub 33 _ d1 p1 (by kernel_rfl) (of_decide_eq_true (by kernel_rfl)) ⟨f1, g1⟩ (fun x hx => by simp [hx]))
      (trodAll_cons_mk (sub 35 _ d2 p2 (by kernel_rfl) (of_decide_eq_true (by kernel_rfl)) ⟨f2, g2⟩ (fun x hx => by simp [hx]))
        (trodAll_cons_mk (sub 37 _ d3 p3 (by kernel_rfl) (of_decide_eq_true (by kernel_rfl)) ⟨f3, g3⟩ (fun x hx => by simp [hx]))
          (trodAll_cons_mk (sub 37 _ d4 p4 (by kernel_rfl) (of_decide_eq_true (by kernel_rfl)) ⟨f4, g4⟩ (fun x hx => by simp [hx])) rfl))))

theorem holds : Rows.MachineAppliesSaid :=
  OpenClaim.holds_of_wide 3 Tryd.f3 rfl rfl rfl rfl rfl rfl rfl ⟨rfl, rfl, rfl, rfl, rfl⟩ rfl rfl rfl rfl rfl (by kernel_rfl) Tryd.func3 (by kernel_rfl)
    (of_decide_eq_true (by kernel_rfl)) (by unfold Func.isWrapper; first | (rw [if_pos (by decide +kernel)]; kernel_rfl) | (rw [if_neg (by decide +kernel)]; exact ⟨rfl, rfl⟩))
    (fun os started H enc _ => lifted os started H enc)

theorem machineAppliesCard_holds : Rows.MachineAppliesCardSaid :=
  Claim7.holds_tied_plain_at .later [] [.mapped, .data] true (true, "5edea5d64c845a42dc53c29eb4fec0e032fc446f20612b24d36a00e022d94674") true
    holds (fun _ h => by cases h) (by kernel_rfl) (fun _ h => by cases h) machineApplies_row_tie rfl ⟨rfl, rfl⟩ (by kernel_rfl) rfl
    (fun f fn hf hfn => by
      obtain rfl : f = 3 := Option.some.inj ((show Tryd.prog.funcNamed "speculate/speculatelaw14.MachineApplies" = some 3 by kernel_rfl).symm.trans hf) |>.symm
      obtain rfl : fn = Tryd.f3 := (Option.some.inj (Tryd.func3.symm.trans hfn)).symm
      exact ⟨by kernel_rfl, fun j t ht => by
        rw [Tryd.params3] at ht
        have hm : t ∈ [22, 33, 35, 37, 37] := by simpa using Array.mem_of_getElem? ht
        have hall : ([22, 33, 35, 37, 37].all fun u => !Tryd.prog.wantsStandIn u) = true := by kernel_rfl
        exact (show Tryd.prog.wantsStandIn t = false by simpa using List.all_eq_true.1 hall t hm)⟩)
    (by kernel_rfl)
#print axioms machineAppliesCard_holds
end Go.Proofs.YtpjfmjemmphheacDoor
