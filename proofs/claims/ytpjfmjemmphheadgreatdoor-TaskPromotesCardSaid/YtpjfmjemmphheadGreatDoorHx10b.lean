/- Regions that draw their order: the alloc that may come up at any time; whole regions. -/
import Derived.Test.YtpjfmjemmphheadGreatDoorHx10a
namespace Go.Hx
open Go Go.RowKit

/-- The object that an alloc makes, and its abstract value. -/
def hAllocO (P : Program) (o : Oper) : Option HObj :=
  match o.op, o.guard with
  | .alloc e, none => match zeroC P e with
    | some z => some (.row z e)
    | none => none
  | .makeMap _ none, none => some (.map [] 0)
  | _, _ => none

def hAllocV (o : Oper) (i : Nat) : Value :=
  match o.op with
  | .alloc _ => .pointer (some ⟨i, 0, none⟩)
  | _ => .map (some i)

section
variable {η : Env} {w0 : Base} {μ : Mu} {s : St} {w : World} {P : Program} {fx : Facts} {ops : Array Oper} {Q : Exit → Act → World → Prop}

theorem allocO_run {o : Oper} {ho : HObj} (h : hAllocO P o = some ho) : o.guard = none ∧ ∃ (O : Obj) (room : Nat), (∀ (ρ : Operand → Value) (w : World), (execOp ρ o).run P w = .ok (.value (hAllocV o w.heap.size)) (w.alloc O)) ∧
    (∀ (η : Env) (μ : Mu), (∃ c e cur, ho = .row c e ∧ O = .cells cur e (0, 0) ∧ room = cur.size ∧ c.length ≤ cur.size ∧ CsR η μ c cur 0) ∨ (ho = .map [] 0 ∧ O = .map #[] 0)) ∧
    ∀ (η : Env) (μ : Mu) (i b : Nat), μ i = some ⟨b, 0, room, undef⟩ → VR η μ (hAllocV o i) (hAllocV o b) := by
  unfold hAllocO at h
  split at h
  · rename_i e hop hg
    split at h
    · rename_i z hz
      cases h
      obtain ⟨f, z', h1, h2, rfl, h3⟩ := zeroC_some hz
      refine ⟨hg, .cells z'.cells e, z'.cells.size, fun ρ w => ?_, fun η μ => .inl ⟨_, _, _, rfl, rfl, rfl, by simp, CsR.of_vrs (zero_flat h3)⟩, fun η μ i b hi => ?_⟩
      · unfold execOp hAllocV
        rw [hop]
        simp [Instr.alloc, zeroValue, typeInfo, h1, h2, newVar, newRow]
      · unfold hAllocV
        rw [hop]
        have := VR.ptr (η := η) (o := 0) hi
        simpa using this
    · cases h
  · rename_i t hop hg
    cases h
    refine ⟨hg, .map #[] 0, 0, fun ρ w => ?_, fun η μ => .inr ⟨rfl, rfl⟩, fun η μ i b hi => ?_⟩
    · unfold execOp hAllocV
      rw [hop]
      rfl
    · unfold hAllocV
      rw [hop]
      exact .map hi
  · cases h

theorem alloc_branch {L : Array Bool} {k : Nat} {ok : Oper} {pend : List (Nat × Nat)} {f : HF} {pc : List (Nat × Nat × Option Obj)} {a : Act} {fuel f0 : Nat} (hst : stOf ops k = false) (hk : ops[k]? = some ok) (hun : L.getD k true = false)
    {O : Obj} (hg : ok.guard = none) (hrun : ∀ (ρ : Operand → Value) (w : World), (execOp ρ ok).run P w = .ok (.value (hAllocV ok w.heap.size)) (w.alloc O))
    (hm : Mom η w0 ops none L pend s f pc μ a w fuel) (hf0 : ops.size ≤ f0 + cnt (L.setIfInBounds k true).toList)
    (cont : ∀ hb : w.heap.size < (w.alloc O).heap.size, KX ops (some k) (some (ok.dst, hAllocV ok w.heap.size)) L → Mom η (w0.lock (w.alloc O) none w.heap.size hb) ops (some k) L pend s f pc μ a (w.alloc O) f0 →
      wpAnyG P .any ops Q (Sp ops pc) f0 (Lx (some k) L) (putx (some (ok.dst, hAllocV ok w.heap.size)) a) (w.alloc O)) :
    wpOp P ops Q k (fun a' w' => Sp ops pc (L.setIfInBounds k true) w' ∧ wpAnyG P .any ops Q (Sp ops pc) f0 (L.setIfInBounds k true) a' w') a w := by
  have hb : w.heap.size < (w.alloc O).heap.size := by have h1 := heap_alloc_new w O; exact block_lt h1
  have hsp : Sp ops pc (L.setIfInBounds k true) (w.alloc O) := by
    refine (Sp_set hst _ _).2 fun y hy => ?_
    rcases hm.sp y hy with h | h
    · exact .inl h
    · have hex := hm.ex y hy
      cases hO : y.2.2 with
      | none => exact absurd hO hex
      | some O' =>
        rw [hO] at h
        have hlt := block_lt h
        have hbl : Below w.heap.size w (w.alloc O) := (Below.refl _ _).alloc (Nat.le_refl _) _
        exact .inr ((hbl.block _ hlt).trans h)
  unfold wpOp
  simp only [hk, Region.wanted, hg, if_true]
  refine .inl ?_
  unfold Oper.wp
  rw [hrun, Oper.upon_value]
  exact ⟨hsp, cont hb ⟨ok, hk, rfl, hun, hst⟩ ⟨hm.size, hf0, hm.pcr, hsp, hm.r.allocG O hb, hm.ar, hm.ex⟩⟩

/-- What is shown at the end of a phase is shown at its beginning, an alloc being under way that has not come up yet. -/
theorem phaseB (hfx : FxOK P η fx) (hg : NoG P) {call : HCall} (hc : CallOK P η call) (hsel : Region.noSelect ops = true) (hQ : ∀ c a w, ¬ Q (.panic c) a w) {k : Nat} {ok : Oper} (hst : stOf ops k = false) (hk : ops[k]? = some ok)
    {ho : HObj} (hao : hAllocO P ok = some ho) {O : Obj} (hrun : ∀ (ρ : Operand → Value) (w : World), (execOp ρ ok).run P w = .ok (.value (hAllocV ok w.heap.size)) (w.alloc O))
    {w0 : Base} {l' : List PS} {L' : Array Bool} {pend' : List (Nat × Nat)} {s' : St} {f' : HF} {μ0 : Mu}
    (fin : ∀ (w1 : World) (b : Nat) (hb : b < w1.heap.size), w1.heap[b]? = some O → w0.wr b → ∀ μ' a' w' pc' fuel', μ0.le μ' → KX ops (some k) (some (ok.dst, hAllocV ok b)) L' →
      Mom η (w0.lock w1 none b hb) ops (some k) L' pend' s' f' pc' μ' a' w' fuel' → wpAnyG P .any ops Q (Sp ops pc') fuel' (Lx (some k) L') (putx (some (ok.dst, hAllocV ok b)) a') w')
    (hend : k ∈ Region.ready .any ops L' ∧ ∀ j ∈ Region.ready .any ops L', j = k) :
    ∀ (l : List PS) (L : Array Bool) (pend : List (Nat × Nat)) (s : St) (f : HF) (μ : Mu) (a : Act) (w : World) (pc : List (Nat × Nat × Option Obj)) (fuel : Nat), μ0.le μ → L.getD k true = false →
      Mom η w0 ops none L pend s f pc μ a w fuel → hphase P fx call ops (some k) l L pend s f = some (l', L', pend', s', f') → wpAnyG P .any ops Q (Sp ops pc) fuel L a w := by
  obtain ⟨hgd, _⟩ := allocO_run hao
  intro l
  have atEnd : ∀ (μ : Mu) (a : Act) (w : World) (pc : List (Nat × Nat × Option Obj)) (fuel : Nat), μ0.le μ → L'.getD k true = false → Mom η w0 ops none L' pend' s' f' pc μ a w fuel → wpAnyG P .any ops Q (Sp ops pc) fuel L' a w := by
    intro μ a w pc fuel hμ hun hm
    obtain ⟨f0, rfl, hf0⟩ := fuel_step hm.size hend.1 hm.fuel
    refine ⟨fun h0 => (by have := hend.1; rw [h0] at this; cases this), fun j hj => ?_⟩
    have := hend.2 j hj
    subst this
    exact alloc_branch hst hk hun hgd hrun hm hf0 fun hb hkx hm' => fin _ _ hb (heap_alloc_new w _) (w0.fresh w _ hm.r.below (Nat.le_refl _)) _ _ _ _ _ hμ hkx hm'
  induction l with
  | nil =>
    intro L pend s f μ a w pc fuel hμ hun hm hr
    cases hr
    exact atEnd _ _ _ _ _ hμ hun hm
  | cons st r ih =>
    intro L pend s f μ a w pc fuel hμ hun hm hr
    cases st with
    | commit k =>
      cases hr
      exact atEnd _ _ _ _ _ hμ hun hm
    | take i =>
      simp only [hphase] at hr
      split at hr
      · cases hr
      · rename_i o ho
        obtain ⟨hok, hr⟩ := bif_some hr
        have hun' : (L.setIfInBounds i true).getD k true = false := by rw [getD_set_ne true (Ne.symm ((okTake_spec hok).2.2.2.2 k rfl).1)]; exact hun
        have hkx : KX ops none none L := trivial
        split at hr
        · cases hr
        · rename_i hw
          split at hr
          · rename_i f1 hf1
            refine take_case (kx := none) (x := none) (v := undef) (T := fun _ => True) (pc' := pc) hsel hQ ho hok hkx (fun k h => by cases h) hm (.inr ⟨wanted_sound hm.ar hw, rfl⟩) trivial hm.pcr hm.ex (fun l w' => ⟨fun h => h.1, fun h => ⟨h, .inr trivial⟩⟩) (put_sound hm.ar undef_vr hf1) ?_
            exact fun fuel' hm' => ih _ _ _ _ _ _ _ _ _ hμ hun' hm' hr
          · cases hr
        · rename_i hw
          split at hr
          · rename_i v z hv
            split at hr
            · rename_i f1 hf1
              obtain ⟨hheld, hr⟩ := bif_some hr
              have he := ev_sound hm.r hm.ar
              obtain ⟨v', k1, k2⟩ := hstill_sound hfx hm.r he hv
              have hy : YieldsIf P ops (fun w' => ∀ i p, z = some i → μ i = some p → w'.heap[p.blk]? = w.heap[p.blk]?) o v' a := .inl ⟨wanted_sound hm.ar hw, fun w' hw' => k1 w' hw'⟩
              cases z with
              | none =>
                refine take_case (kx := none) (x := none) (pc' := pc) hsel hQ ho hok hkx (fun k h => by cases h) hm hy (fun i p h => by cases h) hm.pcr hm.ex (fun l w' => ⟨fun h => h.1, fun h => ⟨h, .inr fun i p h => by cases h⟩⟩) (put_sound hm.ar k2 hf1) ?_
                exact fun fuel' hm' => ih _ _ _ _ _ _ _ _ _ hμ hun' hm' hr
              | some z =>
                obtain ⟨p, hp⟩ := hstill_id he hv
                refine take_case (kx := none) (x := none) (pc' := (i, p.blk, w.heap[p.blk]?) :: pc) hsel hQ ho hok hkx (fun k h => by cases h) hm hy (fun i q _ _ => rfl) (.cons hp hm.pcr)
                  (fun y hy => (List.mem_cons.1 hy).elim (fun e => by subst e; have := held_lt hm.r hheld hp; simp [this]) (hm.ex y)) (fun l w' => ⟨fun h y hy => ?_, fun h => ⟨fun y hy => h y (List.mem_cons_of_mem _ hy), ?_⟩⟩) (put_sound hm.ar k2 hf1) ?_
                · rcases List.mem_cons.1 hy with rfl | hy
                  · exact h.2.imp id fun hT => hT z p rfl hp
                  · exact h.1 y hy
                · exact (h _ (List.mem_cons_self ..)).imp id fun he i q hi hq => by cases hi; rw [hp] at hq; cases hq; exact he
                · exact fun fuel' hm' => ih _ _ _ _ _ _ _ _ _ hμ hun' hm' hr
            · cases hr
          · cases hr
    | st c =>
      have hr0 := hr
      simp only [hphase] at hr
      split at hr
      · cases hr
      · rename_i o ho
        obtain ⟨hok, hr⟩ := bif_some hr
        obtain ⟨q1, q2, q3, q4⟩ := okSt_spec hok
        have hun' : (L.setIfInBounds c true).getD k true = false := by rw [getD_set_ne true (Ne.symm (q4 k rfl).1)]; exact hun
        split at hr
        · rename_i s1 rs hl
          split at hr
          · rename_i s2 f2 hs
            split at hr
            · rename_i s3 hu
              obtain ⟨f0, rfl, hf0⟩ := fuel_step hm.size q2 hm.fuel
              refine ⟨fun h0 => (by rw [h0] at q2; cases q2), fun j hj => ?_⟩
              rcases q3 j hj with rfl | hjk
              · exact st_branch (kx := none) (x := none) hfx hg hc hsel ho trivial q1 hm hl hs hu hf0 fun μ' a' w' pc' hle hm' => ih _ _ _ _ _ _ _ _ _ (Mu.le_trans hμ hle) hun' hm' hr
              · cases hjk
                obtain ⟨f0', e, hf0'⟩ := fuel_step hm.size hj hm.fuel
                cases e
                refine alloc_branch hst hk hun hgd hrun hm hf0' fun hb hkx hm' => ?_
                exact phaseA hfx hg hc hsel hQ rfl (fin _ _ hb (heap_alloc_new w _) (w0.fresh w _ hm.r.below (Nat.le_refl _))) _ _ _ _ _ _ _ _ _ _ hμ hkx hm' hr0
            · cases hr
          · cases hr
        · cases hr

end
end Go.Hx
