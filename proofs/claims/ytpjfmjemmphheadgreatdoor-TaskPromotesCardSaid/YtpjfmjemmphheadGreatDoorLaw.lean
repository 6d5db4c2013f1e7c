/- TaskPromotes returns true for every task, and the task reads behind the call as it read before. Conditions: those of its row: value.units and code.table read as the row lists them; value.operators may be anything; the row's own look at the clock (time may pass). -/
import Derived.Test.YtpjfmjemmphheadGreatDoorRows
import Derived.Test.YtpjfmjemmphheadGreatDoorTie
import Derived.Test.YtpjfmjemmphheadGreatDoorCards
import Derived.Test.YtpjfmjemmphheadGreatDoorFacts
import Derived.ProofKit
import Derived.Carry
import Derived.Clock
import Derived.LaidMore
import Derived.OpenShut
import Derived.OpenVars
import Derived.Stop.Joined
import Derived.SevenTiedAt
namespace Go.Proofs.YtpjfmjemmphheadGreatDoor
open Go.ChangeShapes Go.WideShapes Go.ChangeAt Go.WideMaps Go.WideElems Go.RowKit Go.Hx

theorem own : ownKnob Tryz.prog.godebug = none := by kernel_rfl
theorem laidOut : laidOutB Tryz.prog = true := by kernel_rfl

/-- The door's own heap meets the condition: three closed facts. -/
theorem door_met (os : Os) (args : Array Value) : laidMetH Tryz.prog Rows.taskPromotesRow.laid ((World.doorLaid Tryz.prog 400 os).forCall (fun _ _ => 0) ⟨#[], args, []⟩).memory :=
  laidMetH_of_parts3 (fuel := 8) (laidMet_of_run' 8 (by kernel_rfl) (by kernel_rfl)) (by kernel_rfl) (by kernel_rfl)

theorem table_dat : datC 8 (Rows.laid_speculate_code_table (H := Unit)) = tableV := by kernel_rfl
theorem table_small : (tableL.all fun n => decide (n < TOK)) = true := by kernel_rfl

theorem table_cells {W : World} (h : laidMetH Tryz.prog Rows.taskPromotesRow.laid W) (j : Nat) (v : Value) (hj : tableV[j]? = some v) : W.cell? ⟨0, j, none⟩ = some v ∧ ∀ (η : Env) (μ : Mu), VR η μ v v := by
  have hl : laidMet Tryz.prog Rows.taskPromotesRow.laid W := h
  obtain ⟨ps, hps, _⟩ := hl
  refine ⟨laid_cells hps (name := "speculate/code.table") (dat := Rows.laid_speculate_code_table) (List.mem_cons_of_mem _ (List.mem_cons_self ..)) table_named table_type kd116 (by kernel_rfl) j v (by rw [table_dat]; exact hj), fun η μ => ?_⟩
  unfold tableV at hj
  simp only [List.getElem?_map, Option.map_eq_some_iff] at hj
  obtain ⟨n, hn, rfl⟩ := hj
  have hlt : n < TOK := by simpa using List.all_eq_true.1 table_small n (List.mem_of_getElem? hn)
  have := VR.int (η := η) (μ := μ) .i64 n
  rwa [dn_lt hlt] at this

def zeroKd : Kd → Value
  | .b => .bool false
  | .i => .int .i64 0
  | .s _ => .slice none 0 0
def zeroTask : Value := .agg (tpKd.map zeroKd).toArray

set_option maxRecDepth 100000 in
theorem lifted (os : Os) (started : os.Started) (H : Type) (enc : TypeId × Value → H) (F : Stop.Interp) :
    ReturnsInHanded { calm := true } Tryz.checked os 3 .any (fun w args => (Rows.taskPromotesSpec.pre enc Tryz.prog Tryz.f3 [] false w args ∧ laidMetH Tryz.prog Rows.taskPromotesRow.laid w) ∧ sizedMet enc Tryz.prog Tryz.f3 (OpenSpec.ofChange Rows.taskPromotesSpec) false w args)
      ((OpenSpec.ofChange Rows.taskPromotesSpec).postWith enc Tryz.prog Tryz.f3 F (outsideKept [.timePasses]) false true false) := by
  refine Go.Clock.returns_of_change (C := Tryz.checked) (X := fun w _ => laidMetH Tryz.prog Rows.taskPromotesRow.laid w) (fun _ _ _ hh h => h.of_heap hh) own started (by kernel_rfl) Tryz.func3
    (Go.Clock.witness_at (enc := enc) (C := Tryz.checked) (os := os) (X := fun w _ => laidMetH Tryz.prog Rows.taskPromotesRow.laid w) (World.doorLaid Tryz.prog 400 os) #[zeroTask] 8 rfl (World.shaped_of_RefB (by kernel_rfl) (by kernel_rfl)) (by kernel_rfl) (by kernel_rfl) (by kernel_rfl) (door_met os _)) ?_
  intro W base args ds gs before hval0 hW _ hsz hx _
  have hx : laidMetH Tryz.prog Rows.taskPromotesRow.laid W := hx
  have hW' := hW
  obtain ⟨p, q, hA0, hV, rfl, hfz, hnd⟩ := hW
  have hA : DataW.TrodAll enc Tryz.prog W 0 (fun _ => true) true Tryz.f3.params.toList args.toList ds p := hA0
  rw [Tryz.params3] at hA
  obtain ⟨v0, d0, rfl, rfl, h0⟩ := trodAll_one hA
  obtain ⟨rfl, rfl⟩ := trodVars_none hV
  have hsm : small Tryz.prog 32 d0 := fun n hn => by
    have hsz' : (DataW.weightsEach Tryz.prog (Tryz.f3.params.toList ++ Rows.taskPromotesSpec.plain.varTypes Tryz.prog) ([d0] ++ [])).all (· ≤ reachBytes) = true := hsz
    rw [Tryz.params3] at hsz'
    have := List.all_eq_true.1 hsz' n (mem_each (j := 0) (t := 32) (d := d0) rfl rfl hn)
    simpa using this
  have h0k := h0
  obtain ⟨fuel, hf⟩ := h0
  have hkd := trod_kd 8 fuel 32 _ _ tpKd kd32 hf hsm
  have hv0 : v0 = .agg ⟨v0.cells.toList⟩ := by
    have hl := hkd.1
    cases v0 <;> first | rfl | (exfalso; revert hl; decide) | (exfalso; simp [Value.cells, tpKd] at hl)
  simp only [List.append_nil] at hW'
  have hlt : ∀ x ∈ p, x.block < W.heap.size := fun x hx => by simpa using hW'.lt x hx
  have hpos : 0 < W.heap.size := (cell_plain (table_cells hx 0 (.int .i64 0) (by kernel_rfl)).1).2
  refine (show Calls Tryz.prog 3 #[v0] W (BoolIs W true) by
    rw [hv0]
    exact tp_law facts hkd (table_cells hx) hpos).mono fun e W' ⟨he, hb⟩ => ?_
  subst he
  have hos : ({ W' with os := W.os } : World) = W' := by rw [← hb.os]
  refine ⟨_, rfl, ?_, by rw [hb.os]; exact Go.Clock.Later.refl _⟩
  rw [hos]
  exact ⟨[d0], [], p, [], p, [], hW', trodAll_mk1 (shut_bool Tryz.underlying4 _), trodAll_mk1 (Below.trod laidOut (by kernel_rfl) (of_decide_eq_true (by kernel_rfl)) h0k hb hlt), hb.trodVars laidOut (by kernel_rfl) hV, hb.frame _, fun h => by cases h⟩

theorem holds : Rows.TaskPromotesSaid :=
  Go.Clock.holds_of_wide_time 3 Tryz.f3 rfl rfl rfl rfl rfl rfl rfl ⟨rfl, rfl, rfl, rfl, rfl⟩ rfl rfl rfl rfl rfl (by kernel_rfl) Tryz.func3 (by kernel_rfl)
    (of_decide_eq_true (by kernel_rfl)) (by unfold Func.isWrapper; first | (rw [if_pos (by decide +kernel)]; kernel_rfl) | (rw [if_neg (by decide +kernel)]; exact ⟨rfl, rfl⟩))
    (fun os started H enc _ F => lifted os started H enc F)

theorem taskPromotesCard_holds : Rows.TaskPromotesCardSaid :=
  Claim7.holds_tied_plain_at .later [] [.mapped, .data] true (true, "3a39aa9f06acd0b3cf7ea7acab2da36aa6691e50f00280666b5aa4411e694c8c") true
    holds (fun _ h => by cases h) (by kernel_rfl) (fun _ h => by cases h) taskPromotes_row_tie rfl ⟨rfl, rfl⟩ (by kernel_rfl) rfl
    (fun f fn hf hfn => by
      obtain rfl : f = 3 := Option.some.inj ((show Tryz.prog.funcNamed "speculate/speculatelaw17.TaskPromotes" = some 3 by kernel_rfl).symm.trans hf) |>.symm
      obtain rfl : fn = Tryz.f3 := (Option.some.inj (Tryz.func3.symm.trans hfn)).symm
      exact ⟨by kernel_rfl, fun j t ht => by
        rw [Tryz.params3] at ht
        have hm : t ∈ [32] := by simpa using Array.mem_of_getElem? ht
        have hall : ([32].all fun u => !Tryz.prog.wantsStandIn u) = true := by kernel_rfl
        exact (show Tryz.prog.wantsStandIn t = false by simpa using List.all_eq_true.1 hall t hm)⟩)
    (by kernel_rfl)
#print axioms taskPromotesCard_holds
end Go.Proofs.YtpjfmjemmphheadGreatDoor
