/- MachineApplies: Insert. Conditions: none. -/
import Derived.Test.YtpjfmjemmphheacDoorM3
import Derived.Shelf.Spec.SlicesInsert
import Derived.Lib.AppendZerosOnto
import Derived.Laws.NewBlocks
import Derived.Test.YtpjfmjemmphheacDoorM6
set_option linter.all false
set_option linter.unusedVariables false
set_option linter.unusedSimpArgs false
namespace Go.Proofs.MA
open Go Go.Hx Go.RowKit Go.Proofs Go.Shelf Go.Lib
set_option maxRecDepth 100000
theorem u57 : Tryd.prog.underlying 57 = some (.slice 2) := by kernel_rfl
theorem u3 : Tryd.prog.underlying 3 = some (.int .i64) := by kernel_rfl
theorem u2 : Tryd.prog.underlying 2 = some (.int .i64) := by kernel_rfl
theorem u4 : Tryd.prog.underlying 4 = some .bool := by kernel_rfl
theorem i2 : (Tryd.prog.info? 2).map (fun i => (i.zero, i.size, i.bytes)) = some (some (Value.int IntKind.i64 0), 1, 8) := by kernel_rfl
theorem z2 : ∀ w, (Go.sizeOf 2).run Tryd.prog w = .ok 1 w := fun w => by kernel_rfl
theorem mixedT : Tryd.prog.follows .mixedOrders = true := by kernel_rfl
theorem n38 : Tryd.f38.ntmps = 95 := by kernel_rfl
theorem sz2 : (Tryd.prog.info? 2).map (·.size) = some 1 := by kernel_rfl

theorem hov52 (vb voff m vc b o lb cb : Nat) (w : World) (hvb : vb ≠ b) (tA tB : TypeId) (kA kB : Nat) (hsa : w.shape? vb = some (tA, kA)) (hsb : w.shape? b = some (tB, kB)) (hkB : kB ≠ 0) (hfa : w.frozen? ⟨vb, voff, none⟩ = false) (hfe : w.frozen? ⟨vb, kA, none⟩ = false) :
    (callFunc 52 #[.slice (some ⟨vb, voff, none⟩) m vc, .slice (some ⟨b, o, none⟩) lb cb]).run Tryd.prog w = .ok (.value (.bool false)) w := by
  rw [run_callFunc_extern Tryd.func52 (by kernel_rfl) (by kernel_rfl) (by kernel_rfl) (e := Extern.SlicesOverlaps.overlaps #[57, 57] #[4]) (by kernel_rfl),
      Lib.run_overlaps_apart w 57 4 2 u57 1 z2 ⟨vb, voff, none⟩ ⟨b, o, none⟩ m vc lb cb hvb tA tB kA kB hsa hsb hkB hfa hfe]
  rfl

theorem a57 : ∀ w, (isAgg 57).run Tryd.prog w = .ok false w := fun w => by kernel_rfl
theorem a3 : ∀ w, (isAgg 3).run Tryd.prog w = .ok false w := fun w => by kernel_rfl
theorem a4 : ∀ w, (isAgg 4).run Tryd.prog w = .ok false w := fun w => by kernel_rfl
theorem s57 : ∀ w, (Go.sizeOf 57).run Tryd.prog w = .ok 1 w := fun w => by kernel_rfl
theorem s3 : ∀ w, (Go.sizeOf 3).run Tryd.prog w = .ok 1 w := fun w => by kernel_rfl
theorem s4 : ∀ w, (Go.sizeOf 4).run Tryd.prog w = .ok 1 w := fun w => by kernel_rfl

set_option maxHeartbeats 4000000 in
theorem ins_room (b off n c i vb voff m vc : Nat) (cs vs : List Value) (w : World) (hi : i < n) (hm : 0 < m) (hroom : n + m ≤ c) (hc63 : c ≤ 9223372036854775807) (hvb : vb ≠ b)
    (hcl : cs.length = n) (hvl : vs.length = m)
    (hcs : ∀ j v, cs[j]? = some v → w.cell? ⟨b, off + j, none⟩ = some v) (hsp : ∀ j, j < n + m → (w.cell? ⟨b, off + j, none⟩).isSome = true) (hfz : ∀ j, j < n + m → w.frozen? ⟨b, off + j, none⟩ = false)
    (hvs : ∀ j v, vs[j]? = some v → w.cell? ⟨vb, voff + j, none⟩ = some v) (h1c : ∀ v ∈ cs, v.oneCell' = true) (h1v : ∀ v ∈ vs, v.oneCell' = true)
    (tA tB : TypeId) (kA kB : Nat) (hsa : w.shape? vb = some (tA, kA)) (hsb : w.shape? b = some (tB, kB)) (hkB : kB ≠ 0) (hfa : w.frozen? ⟨vb, voff, none⟩ = false) (hfe : w.frozen? ⟨vb, kA, none⟩ = false) :
    Calls Tryd.prog 38 #[.slice (some ⟨b, off, none⟩) n c, .int .i64 i, .slice (some ⟨vb, voff, none⟩) m vc] w fun e w' =>
      e = .returned (.slice (some ⟨b, off, none⟩) (n + m) c) ∧ w' = (w.drew.setCells b (off + (i + m)) (cs.drop i)).setCells b (off + i) vs := by
  have t3 := u3; have t4 := u4; have t57 := u57; have b3 := a3; have b4 := a4; have b57 := a57; have c3 := s3; have c4 := s4; have c57 := s57
  have v3 := run_underlying u3; have v4 := run_underlying u4; have v57 := run_underlying u57
  have hz1 : ¬ ((m : Int) = 0) := by omega
  have hz2 : ¬ ((i : Int) = (n : Int)) := by omega
  have hsz := sz2
  have hov := fun lb cb => hov52 vb voff m vc b (off + (i + m)) lb cb w hvb tA tB kA kB hsa hsb hkB hfa hfe
  have hdl : (cs.drop i).length = n - i := by rw [List.length_drop, hcl]
  have mixed := mixedT
  have hw1 : IntKind.i64.wrap ((i : Int) + (m : Int)) = (i : Int) + (m : Int) := by rw [IntKind.wrap_i64]; omega
  have hb1 : (0 : Int) ≤ (i : Int) + (m : Int) := by omega
  have hin : i ≤ n := by omega
  have htn : ((i : Int) + (m : Int)).toNat = i + m := by omega
  have hb2 : ¬ (c = i + m) := by omega
  have hb3 : (i : Int) ≤ (n : Int) + (m : Int) := by omega
  have hb4 : ¬ (c = i) := by omega
  have hcp1 : ∀ ty dc sc, (Builtin.copy_ #[57, 57] ty #[.slice (some ⟨b, off + (i + m), none⟩) (n + m - (i + m)) dc, .slice (some ⟨b, off + i, none⟩) (n + m - i) sc]).run Tryd.prog w.drew = .ok (goInt (cs.drop i).length) (w.drew.setCells b (off + (i + m)) (cs.drop i)) := fun ty dc sc =>
    run_copy_cells w.drew _ _ ty 2 b (off + (i + m)) (n + m - (i + m)) dc ⟨b, off + i, none⟩ (n + m - i) sc (cs.drop i) u57 hsz (by rw [hdl]; simp only [Nat.min_def]; split <;> omega)
      (fun j v hj => by rw [Addr.add_lit, Nat.add_assoc]; exact hcs (i + j) v (by rwa [List.getElem?_drop] at hj))
      (fun j hj => by rw [Nat.add_assoc]; exact hsp _ (by omega)) (fun j hj => by rw [Nat.add_assoc]; exact hfz _ (by omega)) (fun v hv => h1c v (List.mem_of_mem_drop hv))
  obtain ⟨W1, hW1⟩ : ∃ W1, W1 = w.drew.setCells b (off + (i + m)) (cs.drop i) := ⟨_, rfl⟩
  have hsp1 : ∀ k, k < n + m → (W1.cell? ⟨b, off + k, none⟩).isSome = true := fun k hk => by
    rw [hW1]
    exact isSome_setCells b _ _ _ (fun j hj => by rw [Nat.add_assoc]; exact hsp _ (by omega)) _ (hsp k hk)
  have hcp2 : ∀ (W : World), (∀ x, W.cell? x = W1.cell? x) → (∀ x, W.frozen? x = W1.frozen? x) → ∀ ty dc, (Builtin.copy_ #[57, 57] ty #[.slice (some ⟨b, off + i, none⟩) (n + m - i) dc, .slice (some ⟨vb, voff, none⟩) m vc]).run Tryd.prog W = .ok (goInt vs.length) (W.setCells b (off + i) vs) := fun W hWc hWf ty dc =>
    run_copy_cells W _ _ ty 2 b (off + i) (n + m - i) dc ⟨vb, voff, none⟩ m vc vs u57 hsz (by rw [hvl]; simp only [Nat.min_def]; split <;> omega)
      (fun j v hj => by
        rw [Addr.add_lit, hWc, hW1, World.cell?_setCells_out b _ _ _ _ (fun h _ => absurd h hvb)]
        exact hvs j v hj)
      (fun j hj => by rw [hWc, Nat.add_assoc]; exact hsp1 _ (by omega)) (fun j hj => by rw [hWf, hW1, World.frozen?_setCells, Nat.add_assoc]; exact hfz _ (by omega)) h1v
  rw [← hW1] at hcp1
  go_enter Tryd.func38, n38
  go_wp2_with (simp only [hov])
  go_region_law_o (refine step_copy_runI rfl _ _ 57 57 rfl _ _ (by simp [Act.eval, Act.put]) (by simp [Act.eval, Act.put]) (hcp1 _ _ _) ?_)
  go_wp2_with (at_builtin; refine wpList_copy_runI _ rfl _ _ 57 57 rfl _ _ rfl rfl (hcp2 _ (fun _ => rfl) (fun _ => rfl) _ _) ?_)
  go_ret
  first | exact ⟨rfl, rfl⟩ | exact ⟨rfl, by rw [hW1]⟩

set_option maxHeartbeats 4000000 in
theorem ins_grow (b off n c i vb voff m vc : Nat) (cs vs : List Value) (w : World) (hi : i < n) (hm : 0 < m) (hnc : n ≤ c) (hroom : c < n + m) (hbig : (n + m) * 8 ≤ 140737488355328)
    (hcl : cs.length = n) (hvl : vs.length = m)
    (hcs : ∀ j v, cs[j]? = some v → w.cell? ⟨b, off + j, none⟩ = some v)
    (hvs : ∀ j v, vs[j]? = some v → w.cell? ⟨vb, voff + j, none⟩ = some v) (h1c : ∀ v ∈ cs, v.oneCell' = true) (h1v : ∀ v ∈ vs, v.oneCell' = true) :
    Calls Tryd.prog 38 #[.slice (some ⟨b, off, none⟩) n c, .int .i64 i, .slice (some ⟨vb, voff, none⟩) m vc] w fun e w' =>
      e = .returned (.slice (some ⟨w.heap.size, 0, none⟩) (n + m) (grownCap w (n + m) c 2)) ∧
      w' = (((w.alloc (.cells ((cs.take i).toArray ++ Builtin.zeroCells (Value.int .i64 0).cells (n + m - i) ++ Builtin.zeroCells (Value.int .i64 0).cells (grownCap w (n + m) c 2 - (n + m))) 2)).drew.setCells w.heap.size i vs).drew).setCells w.heap.size (i + m) (cs.drop i) := by
  have t3 := u3; have t4 := u4; have t57 := u57; have b3 := a3; have b4 := a4; have b57 := a57; have c3 := s3; have c4 := s4; have c57 := s57
  have v3 := run_underlying u3; have v4 := run_underlying u4; have v57 := run_underlying u57
  have mixed := mixedT
  obtain ⟨i0, hi0, hz0, hzs, hzb⟩ := info_parts i2
  have hz1 : ¬ ((m : Int) = 0) := by omega
  have hz2 : ¬ ((i : Int) = (n : Int)) := by omega
  have hz3 : (c : Int) < (n : Int) + (m : Int) := by omega
  have hsz := sz2
  have hbw : b < w.heap.size := block_lt_of_cell (hcs 0 _ (List.getElem?_eq_getElem (by omega)))
  have hvw : vb < w.heap.size := block_lt_of_cell (hvs 0 _ (List.getElem?_eq_getElem (by omega)))
  have hkk : (n : Int) + (m : Int) - (i : Int) = ((n + m - i : Nat) : Int) := by omega
  have hik : i + (n + m - i) = n + m := by omega
  have hold : (Builtin.firstCells i0.size i (.slice (some ⟨b, off, none⟩) i c)).run Tryd.prog w.drew = .ok (cs.take i).toArray w.drew := by
    rw [hzs]
    exact run_firstCells_some w.drew 1 i ⟨b, off, none⟩ i c (cs.take i) (by rw [List.length_take]; omega) (fun j v hj => by
      rw [Addr.add_lit]
      rw [List.getElem?_take] at hj
      split at hj
      · exact hcs j v hj
      · cases hj)
  have hrz : ∀ ty, (Builtin.append_ #[57, 3] ty #[.slice (some ⟨b, off, none⟩) i c, .int .i64 ((n : Int) + (m : Int) - (i : Int))]).run Tryd.prog w =
      .ok (.slice (some ⟨w.heap.size, 0, none⟩) (n + m) (grownCap w (n + m) c 2)) (w.drew.alloc (.cells ((cs.take i).toArray ++ Builtin.zeroCells (Value.int .i64 0).cells (n + m - i) ++ Builtin.zeroCells (Value.int .i64 0).cells (grownCap w (n + m) c 2 - (n + m))) 2)) := fun ty => by
    have h := Lib.run_append_grow_zeros w 57 3 ty 2 i0 _ .i64 .i64 u57 u3 hi0 hz0 (some ⟨b, off, none⟩) i c (cs.take i) hold (n + m - i) (by omega) (by omega) (by omega) (by omega) (by rw [hzb]; omega) (by rw [hzb, hik]; exact growslice_fits hroom hbig)
    rw [hik] at h
    rw [hkk]
    exact h
  obtain ⟨G, hG⟩ : ∃ G, G = grownCap w (n + m) c 2 := ⟨_, rfl⟩
  obtain ⟨ROW, hROW⟩ : ∃ ROW : Array Value, ROW = (cs.take i).toArray ++ Builtin.zeroCells (Value.int .i64 0).cells (n + m - i) ++ Builtin.zeroCells (Value.int .i64 0).cells (G - (n + m)) := ⟨_, rfl⟩
  rw [← hG] at hrz ⊢
  rw [← hROW] at hrz ⊢
  have hRl : n + m ≤ ROW.size := by
    rw [hROW]
    simp [Builtin.zeroCells, Value.cells]
    omega
  obtain ⟨W1, hW1⟩ : ∃ W1, W1 = w.drew.alloc (.cells ROW 2) := ⟨_, rfl⟩
  rw [← hW1] at hrz
  have hN : ∀ j, j < n + m → (W1.cell? ⟨w.heap.size, j, none⟩).isSome = true := fun j hj => by
    rw [hW1, World.cell?_alloc_at (w := w.drew) ROW _ w.heap.size j rfl, Array.getElem?_eq_getElem (by omega)]; rfl
  have hNf : ∀ j, W1.frozen? ⟨w.heap.size, j, none⟩ = false := fun j => by rw [hW1]; exact World.frozen?_alloc_at (w := w.drew) ROW _ w.heap.size j rfl
  have hOb : ∀ j v, w.cell? ⟨b, j, none⟩ = some v → W1.cell? ⟨b, j, none⟩ = some v := fun j v h => by rw [hW1, World.cell?_alloc_past (w := w.drew) _ b j hbw]; exact h
  have hOv : ∀ j v, w.cell? ⟨vb, j, none⟩ = some v → W1.cell? ⟨vb, j, none⟩ = some v := fun j v h => by rw [hW1, World.cell?_alloc_past (w := w.drew) _ vb j hvw]; exact h
  have hcpA : ∀ (W : World), (∀ x, W.cell? x = W1.cell? x) → (∀ x, W.frozen? x = W1.frozen? x) → ∀ ty dc, (Builtin.copy_ #[57, 57] ty #[.slice (some ⟨w.heap.size, i, none⟩) (n + m - i) dc, .slice (some ⟨vb, voff, none⟩) m vc]).run Tryd.prog W = .ok (goInt vs.length) (W.setCells w.heap.size i vs) := fun W hWc hWf ty dc =>
    run_copy_cells W _ _ ty 2 w.heap.size i (n + m - i) dc ⟨vb, voff, none⟩ m vc vs u57 hsz (by rw [hvl]; simp only [Nat.min_def]; split <;> omega)
      (fun j v hj => by rw [Addr.add_lit, hWc]; exact hOv _ v (hvs j v hj))
      (fun j hj => by rw [hWc]; exact hN _ (by omega)) (fun j hj => by rw [hWf]; exact hNf _) h1v
  have hGn : n + m ≤ G := by rw [hG]; exact grownCap_ge w _ _ _
  have hG63 : G ≤ 9223372036854775807 := by
    have := grownCap_le_maxLen w (n + m) c 2 (by unfold maxLen; omega)
    rw [← hG] at this
    unfold maxLen at this
    omega
  have hGi : ¬ (G = i) := by omega
  have hGim : ¬ (G = i + m) := by omega
  have hci : ¬ (c = i) := by omega
  have hbN : b ≠ w.heap.size := by omega
  have hdl : (cs.drop i).length = n - i := by rw [List.length_drop, hcl]
  have hcpB : ∀ (W : World), (∀ x, W.cell? x = (W1.setCells w.heap.size i vs).cell? x) → (∀ x, W.frozen? x = (W1.setCells w.heap.size i vs).frozen? x) → ∀ ty dc sc, (Builtin.copy_ #[57, 57] ty #[.slice (some ⟨w.heap.size, i + m, none⟩) (n + m - (i + m)) dc, .slice (some ⟨b, off + i, none⟩) (n - i) sc]).run Tryd.prog W = .ok (goInt (cs.drop i).length) (W.setCells w.heap.size (i + m) (cs.drop i)) := fun W hWc hWf ty dc sc =>
    run_copy_cells W _ _ ty 2 w.heap.size (i + m) (n + m - (i + m)) dc ⟨b, off + i, none⟩ (n - i) sc (cs.drop i) u57 hsz (by rw [hdl]; simp only [Nat.min_def]; split <;> omega)
      (fun j v hj => by
        rw [Addr.add_lit, hWc, World.cell?_setCells_out _ _ _ _ _ (fun h _ => absurd h hbN), Nat.add_assoc]
        exact hOb _ v (hcs (i + j) v (by rwa [List.getElem?_drop] at hj)))
      (fun j hj => by rw [hWc]; exact isSome_setCells _ _ _ _ (fun t ht => hN _ (by omega)) _ (hN _ (by omega)))
      (fun j hj => by rw [hWf, World.frozen?_setCells]; exact hNf _) (fun v hv => h1c v (List.mem_of_mem_drop hv))
  subst hW1
  have hE1 : ∀ x, ((w.alloc (.cells ROW 2)).drew).cell? x = (w.drew.alloc (.cells ROW 2)).cell? x := fun x => rfl
  have hE2 : ∀ x, ((w.alloc (.cells ROW 2)).drew).frozen? x = (w.drew.alloc (.cells ROW 2)).frozen? x := fun x => rfl
  have hF1 : ∀ x, (((w.alloc (.cells ROW 2)).drew.setCells w.heap.size i vs).drew).cell? x = ((w.drew.alloc (.cells ROW 2)).setCells w.heap.size i vs).cell? x := fun x => rfl
  have hF2 : ∀ x, (((w.alloc (.cells ROW 2)).drew.setCells w.heap.size i vs).drew).frozen? x = ((w.drew.alloc (.cells ROW 2)).setCells w.heap.size i vs).frozen? x := fun x => rfl
  have hw1 : IntKind.i64.wrap ((i : Int) + (m : Int)) = (i : Int) + (m : Int) := by rw [IntKind.wrap_i64]; omega
  have hb1 : (0 : Int) ≤ (i : Int) + (m : Int) := by omega
  have hin : i ≤ n := by omega
  have htn : ((i : Int) + (m : Int)).toNat = i + m := by omega
  have hb3 : (i : Int) ≤ (n : Int) := by omega
  clear hkk hik hold hROW hG hRl
  go_enter Tryd.func38, n38
  go_wp2_with (first
    | (at_builtin; refine Lib.wpList_append_run _ rfl _ _ _ _ rfl _ _ rfl rfl _ _ (hrz _) ?_)
    | (at_builtin; refine wpList_copy_runI _ rfl _ _ 57 57 rfl _ _ rfl rfl (hcpA _ hE1 hE2 _ _) ?_)
    | (at_builtin; refine wpList_copy_runI _ rfl _ _ 57 57 rfl _ _ rfl rfl (hcpB _ (fun _ => rfl) (fun _ => rfl) _ _ _) ?_))
  go_region_law_o (refine step_copy_runI rfl _ _ 57 57 rfl (.slice (some ⟨w.heap.size, i + m, none⟩) (n + m - (i + m)) (G - (i + m))) (.slice (some ⟨b, off + i, none⟩) (n - i) (c - i)) (by simp [Act.eval, Act.put]) (by simp [Act.eval, Act.put]) (hcpB _ hF1 hF2 3 (G - (i + m)) (c - i)) ?_)
  go_wp2
  go_ret
  exact ⟨rfl, rfl⟩
end Go.Proofs.MA

namespace Go.Proofs.MA
open Go Go.Hx Go.RowKit Go.Proofs
set_option maxRecDepth 100000

theorem setCells_obj (b : Nat) : ∀ (vs : List Value) (o : Nat) (w : World) (cur : Array Value) (e : TypeId), w.heap[b]? = some (.cells cur e (0, 0)) → o + vs.length ≤ cur.size →
    ∃ cur' : Array Value, (w.setCells b o vs).heap[b]? = some (.cells cur' e (0, 0)) ∧ cur'.size = cur.size ∧ (∀ k, cur'[k]? = if o ≤ k ∧ k < o + vs.length then vs[k - o]? else cur[k]?) ∧ Off b w (w.setCells b o vs) := by
  intro vs
  induction vs with
  | nil => intro o w cur e h _; exact ⟨cur, h, rfl, fun k => by rw [if_neg (fun hh => by have := hh.1; have := hh.2; simp at this; omega)], ⟨rfl, rfl, rfl, rfl, fun _ _ => rfl⟩⟩
  | cons v vs ih =>
    intro o w cur e h ho
    simp only [List.length_cons] at ho
    have hlt : b < w.heap.size := block_lt h
    have h1 : (w.setCell ⟨b, o, none⟩ v).heap[b]? = some (.cells (cur.setIfInBounds o v) e (0, 0)) := by
      unfold World.setCell
      simp only [Array.getElem?_modify, if_pos, h, Option.map_some]
      rfl
    obtain ⟨cur', k1, k2, k3, k4⟩ := ih (o + 1) (w.setCell ⟨b, o, none⟩ v) (cur.setIfInBounds o v) e h1 (by simp; omega)
    refine ⟨cur', k1, by rw [k2]; simp, fun k => ?_, ?_⟩
    · rw [k3 k]
      by_cases hk : o ≤ k ∧ k < o + (vs.length + 1)
      · rw [List.length_cons, if_pos hk]
        by_cases hko : k = o
        · subst hko
          rw [if_neg (by omega)]
          rw [Array.getElem?_setIfInBounds_self_of_lt (by omega)]
          simp
        · rw [if_pos (by omega)]
          rw [show k - o = (k - (o + 1)) + 1 by omega, List.getElem?_cons_succ]
      · rw [List.length_cons, if_neg hk, if_neg (by omega), Array.getElem?_setIfInBounds_ne (by omega)]
    · refine ⟨k4.os, k4.tape, k4.output, by rw [show (w.setCells b o (v :: vs)) = (w.setCell ⟨b, o, none⟩ v).setCells b (o + 1) vs from rfl, k4.size]; simp [World.setCell], fun k hk => ?_⟩
      rw [show (w.setCells b o (v :: vs)) = (w.setCell ⟨b, o, none⟩ v).setCells b (o + 1) vs from rfl, k4.block k hk]
      unfold World.setCell
      simp only [Array.getElem?_modify]
      rw [if_neg (by simpa using Ne.symm hk)]

theorem Off.trans {b : Nat} {x y z : World} (h : Off b x y) (k : Off b y z) : Off b x z := ⟨k.os.trans h.os, k.tape.trans h.tape, k.output.trans h.output, k.size.trans h.size, fun i hi => (k.block i hi).trans (h.block i hi)⟩

theorem Off.drew (b : Nat) (w : World) : Off b w w.drew := ⟨rfl, rfl, rfl, rfl, fun _ _ => rfl⟩

def insI (l : List Int) (i : Nat) (x : Int) : List Int := l.take i ++ x :: l.drop i

theorem ids_get (l : List Int) (j : Nat) : (ids l)[j]? = (l[j]?).map fun i => .int .i64 i := by simp [ids]

set_option maxHeartbeats 2000000 in
theorem ins_fn {s s' : St} {ko kv : Nat} {l : List Int} {x : Int} {i : Nat} {t1 : Tr HObj} (hk : s.h.get ko = some (.row true (ids l) 2)) (hv : s.h.get kv = some (.row false [.int .i64 x] 2)) (hi : i < l.length) (hl : l.length ≤ 100000)
    (hne : ko ≠ kv) (hko : ko ≠ s.next) (ht1 : Tr.set 64 s.h ko .dead = some t1) (ht2 : Tr.set 64 t1 s.next (.row true (ids (insI l i x)) 2) = some s'.h) (e2 : s'.next = s.next + 1) (e3 : s'.ng = s.ng) :
    FnEx Tryd.prog 38 [.slice (some ⟨ko, 0, none⟩) l.length (UNK + 1), .int .i64 i, .slice (some ⟨kv, 0, none⟩) 1 1] s (fun u t => u = .slice (some ⟨s.next, 0, none⟩) (l.length + 1) (UNK + 1) ∧ t = s') := by
  intro w0 μ w args' hR hV
  cases hV with
  | cons h1 hV =>
  cases hV with
  | cons h2 hV =>
  cases hV with
  | cons h3 hV =>
  cases hV
  cases h2
  obtain ⟨p, cur, p1, p2, p3, p4, p5, p6⟩ := hR.row ko _ _ _ hk
  obtain ⟨q, cuq, q1, q2, q3, q4, q5, q6⟩ := hR.row kv _ _ _ hv
  have hidl : (ids l).length = l.length := by simp [ids]
  -- the arguments
  rcases h1.slice_inv with ⟨_, _, _, _, _, hc, _⟩ | ⟨a1, a2, p', zz, c', he, hcz, hp', hn', hm', hr, rfl⟩ | ⟨zz, a'', hcz, hn0, rfl⟩
  · exact absurd hc (by unfold UNK; omega)
  case inr.inr => omega
  obtain ⟨rfl, rfl, _⟩ := Addr.mk.inj he
  rw [p1] at hp'; cases hp'
  have hz : zz = 1 := by omega
  subst hz
  rcases h3.slice_inv with ⟨b1, b2, q', he3, hq', hc3, rfl⟩ | ⟨_, _, _, _, _, _, hcz3, _⟩ | ⟨_, _, hcz3, _, _⟩
  case inr.inl => unfold UNK at hcz3; omega
  case inr.inr => unfold UNK at hcz3; omega
  obtain ⟨rfl, rfl, _⟩ := Addr.mk.inj he3
  rw [q1] at hq'; cases hq'
  simp only [Nat.add_zero]
  have hbne : q.blk ≠ p.blk := fun e => hR.dis kv ko _ _ q p (Ne.symm hne) hv hk q1 p1 q.blk rfl e
  have cellP : ∀ k, w.cell? ⟨p.blk, k, none⟩ = cur[k]? := fun k => by unfold World.cell?; rw [p2]; rfl
  have cellQ : ∀ k, w.cell? ⟨q.blk, k, none⟩ = cuq[k]? := fun k => by unfold World.cell?; rw [q2]; rfl
  have frP : ∀ k, w.frozen? ⟨p.blk, k, none⟩ = false := fun k => by unfold World.frozen?; rw [p2]; simp
  have frQ : ∀ k, w.frozen? ⟨q.blk, k, none⟩ = false := fun k => by unfold World.frozen?; rw [q2]; simp
  have hcs : ∀ j v, (ids l)[j]? = some v → w.cell? ⟨p.blk, p.base + j, none⟩ = some v := fun j v hj => by
    obtain ⟨v', k1, k2⟩ := p6 j v hj
    rw [cellP, k1]
    rw [ids_get] at hj
    cases hlj : l[j]? with
    | none => rw [hlj] at hj; cases hj
    | some y => rw [hlj] at hj; cases hj; cases k2; rfl
  have hvs : ∀ j v, [Value.int IntKind.i64 x][j]? = some v → w.cell? ⟨q.blk, q.base + j, none⟩ = some v := fun j v hj => by
    obtain ⟨v', k1, k2⟩ := q6 j v hj
    rw [cellQ, k1]
    cases j with
    | zero => cases hj; cases k2; rfl
    | succ j => simp at hj
  have h1c : ∀ v ∈ ids l, v.oneCell' = true := fun v hv => by
    unfold ids at hv
    obtain ⟨y, _, rfl⟩ := List.mem_map.1 hv
    rfl
  have h1v : ∀ v ∈ [Value.int IntKind.i64 x], v.oneCell' = true := fun v hv => by
    simp at hv; subst hv; rfl
  -- the cells of the new row
  have hnew : ∀ (cur' : Array Value) (o : Nat), (∀ j, j < i → cur'[o + j]? = (ids l)[j]?) → cur'[o + i]? = some (.int .i64 x) → (∀ j, j < l.length - i → cur'[o + (i + 1) + j]? = ((ids l).drop i)[j]?) → ∀ ν : Mu, CsR true ν (ids (insI l i x)) cur' o := by
    intro cur' o n1 n2 n3 ν j v hj
    have hlen : (l.take i).length = i := by simp; omega
    refine ⟨v, ?_, ?_⟩
    · rw [ids_get] at hj
      unfold insI at hj
      rcases Nat.lt_trichotomy j i with hji | hji | hji
      · rw [n1 j hji, ids_get, ← hj, List.getElem?_append_left (by omega), List.getElem?_take, if_pos hji]
      · subst hji
        rw [n2]
        rw [List.getElem?_append_right (by omega), hlen, Nat.sub_self] at hj
        exact hj
      · rw [List.getElem?_append_right (by omega), hlen, show j - i = (j - (i + 1)) + 1 by omega, List.getElem?_cons_succ] at hj
        have hjl : j - (i + 1) < l.length - i := by
          rcases Nat.lt_or_ge (j - (i + 1)) (l.length - i) with h | h
          · exact h
          · rw [List.getElem?_eq_none (by simp; omega)] at hj; cases hj
        rw [show o + j = o + (i + 1) + (j - (i + 1)) by omega, n3 _ hjl, List.getElem?_drop, ids_get, ← hj, List.getElem?_drop]
    · rw [ids_get] at hj
      cases hlj : (insI l i x)[j]? with
      | none => rw [hlj] at hj; cases hj
      | some y => rw [hlj] at hj; cases hj; exact .int _ _
  have hil : (insI l i x).length = l.length + 1 := by unfold insI; simp; omega
  have hdl : ((ids l).drop i).length = l.length - i := by simp [ids]
  by_cases hroom : l.length + 1 ≤ c'
  · -- in place
    refine (ins_room p.blk p.base l.length c' i q.blk q.base 1 1 (ids l) [.int .i64 x] w hi (by omega) hroom (by unfold maxLen at hm'; omega) hbne hidl rfl hcs (fun j hj => by rw [cellP, Array.getElem?_eq_getElem (by omega)]; rfl) (fun j _ => frP _) hvs h1c h1v 2 2 cuq.size cur.size (by unfold World.shape?; rw [q2]) (by unfold World.shape?; rw [p2]) (by omega) (frQ _) (frQ _)).mono ?_
    rintro e w' ⟨rfl, rfl⟩
    have hd2 : w.drew.heap[p.blk]? = some (.cells cur 2 (0, 0)) := p2
    obtain ⟨cu1, m1, m2, m3, m4⟩ := setCells_obj p.blk ((ids l).drop i) (p.base + (i + 1)) w.drew cur 2 hd2 (by rw [hdl]; omega)
    obtain ⟨cu2, k1, k2, k3, k4⟩ := setCells_obj p.blk [.int .i64 x] (p.base + i) _ cu1 2 m1 (by simp; omega)
    have hoff : Off p.blk w ((w.drew.setCells p.blk (p.base + (i + 1)) ((ids l).drop i)).setCells p.blk (p.base + i) [.int .i64 x]) :=
      Off.trans (Off.trans (show Off p.blk w w.drew from ⟨rfl, rfl, rfl, rfl, fun _ _ => rfl⟩) m4) k4
    have hcs2 : CsR true μ (ids (insI l i x)) cu2 (p.base + 0) := by
      rw [Nat.add_zero]
      refine hnew cu2 p.base (fun j hj => ?_) ?_ (fun j hj => ?_) μ
      · rw [k3, if_neg (by simp; omega), m3, if_neg (by omega), ids_get]
        have := hcs j _ (List.getElem?_eq_getElem (by omega : j < (ids l).length))
        rw [cellP] at this
        rw [this, ← ids_get, List.getElem?_eq_getElem (by omega : j < (ids l).length)]
      · rw [k3, if_pos (by simp)]; simp
      · rw [k3, if_neg (by simp; omega), m3, if_pos (by rw [hdl]; omega)]
        congr 1
        omega
    have hmv := hR.move (p := p) (o := 0) (cur' := cu2) (d := 64) (d' := 64) hk hko ht1 ht2 p1 p2 (by rw [k2, m2]) (by omega) (by rw [show (ids (insI l i x)).length = (insI l i x).length by simp [ids], hil]; omega) hcs2
      (w0.upd _ _ _ hR.below p5 hoff) (Nat.le_of_eq hoff.size.symm) k1 hoff.block
    refine ⟨_, s', _, _, ⟨rfl, rfl⟩, rfl, Mu.put_le (hR.fresh _ (Nat.le_refl _)), hmv.same rfl e2 e3, ?_⟩
    have := VR.sliceU (μ := μ.put s.next ⟨p.blk, p.base + 0, p.room - 0, nobd⟩) (i := s.next) (o := 0) (n := l.length + 1) (z := 1) (c' := c') (Mu.put_same _ _ _) hroom hm' (by simp only; omega)
    simpa using this
  · -- a new row
    refine (ins_grow p.blk p.base l.length c' i q.blk q.base 1 1 (ids l) [.int .i64 x] w hi (by omega) hn' (by omega) (by omega) hidl rfl hcs hvs h1c h1v).mono ?_
    rintro e w' ⟨rfl, rfl⟩
    obtain ⟨G, hG⟩ : ∃ G, G = grownCap w (l.length + 1) c' 2 := ⟨_, rfl⟩
    have hGn : l.length + 1 ≤ G := by rw [hG]; exact grownCap_ge w _ _ _
    have hGm : G ≤ maxLen := by rw [hG]; exact grownCap_le_maxLen w _ _ _ (by unfold maxLen; omega)
    rw [← hG]
    obtain ⟨ROW, hROW⟩ : ∃ ROW : Array Value, ROW = ((ids l).take i).toArray ++ Builtin.zeroCells (Value.int .i64 0).cells (l.length + 1 - i) ++ Builtin.zeroCells (Value.int .i64 0).cells (G - (l.length + 1)) := ⟨_, rfl⟩
    rw [← hROW]
    have hzc : ∀ k, (Builtin.zeroCells (Value.int IntKind.i64 0).cells k).size = k := fun k => by rw [zeroCells_size]; show k * 1 = k; omega
    have htk : ((ids l).take i).length = i := by rw [List.length_take, hidl]; omega
    have hRs : ROW.size = G := by
      rw [hROW, Array.size_append, Array.size_append, hzc, hzc, List.size_toArray, htk]
      omega
    have hRj : ∀ j, j < i → ROW[j]? = (ids l)[j]? := fun j hj => by
      rw [hROW, Array.getElem?_append_left (by rw [Array.size_append, List.size_toArray, htk]; omega), Array.getElem?_append_left (by rw [List.size_toArray, htk]; omega), List.getElem?_toArray, List.getElem?_take, if_pos hj]
    have hn0 : (w.alloc (.cells ROW 2)).drew.heap[w.heap.size]? = some (.cells ROW 2 (0, 0)) := heap_alloc_new w _
    obtain ⟨cu1, m1, m2, m3, m4⟩ := setCells_obj w.heap.size [.int .i64 x] i (w.alloc (.cells ROW 2)).drew ROW 2 hn0 (by simp; omega)
    obtain ⟨cu2, k1, k2, k3, k4⟩ := setCells_obj w.heap.size ((ids l).drop i) (i + 1) (((w.alloc (.cells ROW 2)).drew.setCells w.heap.size i [.int .i64 x]).drew) cu1 2 m1 (by rw [hdl]; omega)
    have hoff : Off w.heap.size (w.alloc (.cells ROW 2)) ((((w.alloc (.cells ROW 2)).drew.setCells w.heap.size i [.int .i64 x]).drew).setCells w.heap.size (i + 1) ((ids l).drop i)) :=
      Off.trans (Off.trans (Off.trans (Off.drew _ _) m4) (Off.drew _ _)) k4
    have hcs2 : CsR true μ (ids (insI l i x)) cu2 0 := by
      refine hnew cu2 0 (fun j hj => ?_) ?_ (fun j hj => ?_) μ
      · rw [Nat.zero_add, k3, if_neg (by omega), m3, if_neg (by simp; omega), hRj j hj]
      · rw [Nat.zero_add, k3, if_neg (by omega), m3, if_pos (by simp)]; simp
      · rw [Nat.zero_add, k3, if_pos (by rw [hdl]; omega)]
        congr 1
        omega
    have hnx : hNewX true { s with h := t1 } (ids (insI l i x)) 2 = some (s.next, { s with h := s'.h, next := s.next + 1 }) := by
      unfold hNewX
      simp only [ht2, Option.map_some]
    obtain ⟨μ', r1, r2, r3⟩ := newX_sound (hR.kill ht1) hnx (cur := cu2) (by rw [show (ids (insI l i x)).length = (insI l i x).length by simp [ids], hil]; omega) hcs2
    have hb : Below (w.alloc (.cells cu2 2)).heap.size (w.alloc (.cells cu2 2)) ((((w.alloc (.cells ROW 2)).drew.setCells w.heap.size i [.int .i64 x]).drew).setCells w.heap.size (i + 1) ((ids l).drop i)) := by
      have hsz : ∀ O, (w.alloc O).heap.size = w.heap.size + 1 := fun O => by show (w.heap.push O).size = _; exact Array.size_push _
      refine ⟨hoff.os, hoff.tape, hoff.output, by rw [hoff.size, hsz, hsz]; exact Nat.le_refl _, fun k hk => ?_⟩
      rw [hsz] at hk
      by_cases hkb : k = w.heap.size
      · subst hkb
        rw [k1, heap_alloc_new w _]
      · rw [hoff.block k hkb, Below.heap_alloc w _ k (by omega), Below.heap_alloc w _ k (by omega)]
    refine ⟨_, s', _, μ', ⟨rfl, rfl⟩, rfl, r1, (r2.garbage hb).same rfl e2 e3, ?_⟩
    have := VR.sliceU (μ := μ') (i := s.next) (o := 0) (n := l.length + 1) (z := 1) (c' := G) r3 hGn hGm (by simp only; omega)
    simpa using this

end Go.Proofs.MA
