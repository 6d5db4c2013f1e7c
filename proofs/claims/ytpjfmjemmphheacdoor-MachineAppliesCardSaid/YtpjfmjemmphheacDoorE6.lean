/- MachineApplies: the executor: code and calls. Conditions: none. -/
import Derived.Test.YtpjfmjemmphheacDoorE5
set_option linter.all false
set_option linter.unusedVariables false
set_option linter.unusedSimpArgs false
namespace Go.Hx
open Go Go.RowKit

/-- The object that an alloc makes, and its abstract value. -/
def hAllocO (P : Program) (o : Oper) : Option HObj :=
  match o.op, o.guard with
  | .alloc e, none => match zeroC P e with
    | some z => some (.row false z e)
    | none => none
  | .makeMap _ none, none => some (.map [] 0)
  | _, _ => none

def hAllocV (o : Oper) (i : Nat) : Value :=
  match o.op with
  | .alloc _ => .pointer (some ⟨i, 0, none⟩)
  | _ => .map (some i)

section
variable {w0 : Base} {μ : Mu} {s : St} {w : World} {P : Program} {ops : Array Oper} {Q : Exit → Act → World → Prop}

theorem allocO_run {o : Oper} {ho : HObj} (h : hAllocO P o = some ho) : o.guard = none ∧ ∃ (O : Obj) (room : Nat), (∀ (ρ : Operand → Value) (w : World), (execOp ρ o).run P w = .ok (.value (hAllocV o w.heap.size)) (w.alloc O)) ∧
    (∀ (μ : Mu), (∃ op c e cur, ho = .row op c e ∧ O = .cells cur e (0, 0) ∧ room = cur.size ∧ c.length ≤ cur.size ∧ CsR op μ c cur 0) ∨ (ho = .map [] 0 ∧ O = .map #[] 0)) ∧
    ∀ (μ : Mu) (i b : Nat), μ i = some ⟨b, 0, room, nobd⟩ → VR μ (hAllocV o i) (hAllocV o b) := by
  unfold hAllocO at h
  split at h
  · rename_i e hop hg
    split at h
    · rename_i z hz
      cases h
      obtain ⟨f, z', h1, h2, rfl, h3⟩ := zeroC_some hz
      refine ⟨hg, .cells z'.cells e, z'.cells.size, fun ρ w => ?_, fun μ => .inl ⟨_, _, _, _, rfl, rfl, rfl, by simp, CsR.of_vrs (zero_flat h3)⟩, fun μ i b hi => ?_⟩
      · unfold execOp hAllocV
        rw [hop]
        simp [Instr.alloc, zeroValue, typeInfo, h1, h2, newVar, newRow]
      · unfold hAllocV
        rw [hop]
        have := VR.ptr (o := 0) hi
        simpa using this
    · cases h
  · rename_i t hop hg
    cases h
    refine ⟨hg, .map #[] 0, 0, fun ρ w => ?_, fun μ => .inr ⟨rfl, rfl⟩, fun μ i b hi => ?_⟩
    · unfold execOp hAllocV
      rw [hop]
      rfl
    · unfold hAllocV
      rw [hop]
      exact .map hi
  · cases h

theorem alloc_branch {L : Array Bool} {k : Nat} {ok : Oper} {pend : List (Nat × Option Nat)} {f : HF} {pc : List (Nat × Nat × Option Obj)} {a : Act} {fuel f0 : Nat} (hst : stOf ops k = false) (hk : ops[k]? = some ok) (hun : L.getD k true = false)
    {O : Obj} (hg : ok.guard = none) (hrun : ∀ (ρ : Operand → Value) (w : World), (execOp ρ ok).run P w = .ok (.value (hAllocV ok w.heap.size)) (w.alloc O))
    (hm : Mom w0 ops none L pend s f pc μ a w fuel) (hf0 : ops.size ≤ f0 + cnt (L.setIfInBounds k true).toList)
    (cont : ∀ hb : w.heap.size < (w.alloc O).heap.size, KX ops (some k) (some (ok.dst, hAllocV ok w.heap.size)) L → Mom (w0.lock (w.alloc O) none w.heap.size hb) ops (some k) L pend s f pc μ a (w.alloc O) f0 →
      wpAnyG P .any ops Q (Sp ops pc) f0 (Lx (some k) L) (putx (some (ok.dst, hAllocV ok w.heap.size)) a) (w.alloc O)) :
    wpOp P ops Q k (fun a' w' => Sp ops pc (L.setIfInBounds k true) w' ∧ wpAnyG P .any ops Q (Sp ops pc) f0 (L.setIfInBounds k true) a' w') a w := by
  have hb : w.heap.size < (w.alloc O).heap.size := by have h1 := heap_alloc_new w O; exact block_lt h1
  have hsp : Sp ops pc (L.setIfInBounds k true) (w.alloc O) := by
    refine (Sp_set hst _ _).2 fun y hy => ?_
    rcases hm.sp y hy with h | h
    · exact .inl h
    · have hex := hm.ex y hy
      cases hO : y.2.2 with
      | none => exact absurd hO hex
      | some O' =>
        rw [hO] at h
        have hlt := block_lt h
        have hbl : Below w.heap.size w (w.alloc O) := (Below.refl _ _).alloc (Nat.le_refl _) _
        exact .inr ((hbl.block _ hlt).trans h)
  unfold wpOp
  simp only [hk, Region.wanted, hg, if_true]
  refine .inl ?_
  unfold Oper.wp
  rw [hrun, Oper.upon_value]
  exact ⟨hsp, cont hb ⟨ok, hk, rfl, hun, hst⟩ ⟨hm.size, hf0, hm.pcr, hsp, hm.r.allocG O hb, hm.ar, hm.ex⟩⟩

/-- What is shown at the end of a phase is shown at its beginning, an alloc being under way that has not come up yet. -/
theorem phaseB (hg : NoG P) {call : HCall} (hc : CallOK P call) (hsel : Region.noSelect ops = true) (hQ : ∀ c a w, ¬ Q (.panic c) a w) {k : Nat} {ok : Oper} (hst : stOf ops k = false) (hk : ops[k]? = some ok)
    {ho : HObj} (hao : hAllocO P ok = some ho) {O : Obj} (hrun : ∀ (ρ : Operand → Value) (w : World), (execOp ρ ok).run P w = .ok (.value (hAllocV ok w.heap.size)) (w.alloc O))
    {w0 : Base} {l' : List PS} {L' : Array Bool} {pend' : List (Nat × Option Nat)} {s' : St} {f' : HF} {μ0 : Mu}
    (fin : ∀ (w1 : World) (b : Nat) (hb : b < w1.heap.size), w1.heap[b]? = some O → w0.wr b → ∀ μ' a' w' pc' fuel', μ0.le μ' → KX ops (some k) (some (ok.dst, hAllocV ok b)) L' →
      Mom (w0.lock w1 none b hb) ops (some k) L' pend' s' f' pc' μ' a' w' fuel' → wpAnyG P .any ops Q (Sp ops pc') fuel' (Lx (some k) L') (putx (some (ok.dst, hAllocV ok b)) a') w')
    (hend : k ∈ Region.ready .any ops L' ∧ ∀ j ∈ Region.ready .any ops L', j = k)
    (okS : SOK s') : ∀ (l : List PS) (L : Array Bool) (pend : List (Nat × Option Nat)) (s : St) (f : HF) (μ : Mu) (a : Act) (w : World) (pc : List (Nat × Nat × Option Obj)) (fuel : Nat), μ0.le μ → L.getD k true = false →
      Mom w0 ops none L pend s f pc μ a w fuel → hphase P call ops (some k) l L pend s f = some (l', L', pend', s', f') → wpAnyG P .any ops Q (Sp ops pc) fuel L a w := by
  obtain ⟨hgd, _⟩ := allocO_run hao
  intro l
  have atEnd : ∀ (μ : Mu) (a : Act) (w : World) (pc : List (Nat × Nat × Option Obj)) (fuel : Nat), μ0.le μ → L'.getD k true = false → Mom w0 ops none L' pend' s' f' pc μ a w fuel → wpAnyG P .any ops Q (Sp ops pc) fuel L' a w := by
    intro μ a w pc fuel hμ hun hm
    obtain ⟨f0, rfl, hf0⟩ := fuel_step hm.size hend.1 hm.fuel
    refine ⟨fun h0 => (by have := hend.1; rw [h0] at this; cases this), fun j hj => ?_⟩
    have := hend.2 j hj
    subst this
    exact alloc_branch hst hk hun hgd hrun hm hf0 fun hb hkx hm' => fin _ _ hb (heap_alloc_new w _) (w0.fresh w _ hm.r.below (Nat.le_refl _)) _ _ _ _ _ hμ hkx hm'
  induction l with
  | nil =>
    intro L pend s f μ a w pc fuel hμ hun hm hr
    cases hr
    exact atEnd _ _ _ _ _ hμ hun hm
  | cons st r ih =>
    intro L pend s f μ a w pc fuel hμ hun hm hr
    cases st with
    | commit k =>
      cases hr
      exact atEnd _ _ _ _ _ hμ hun hm
    | take i =>
      simp only [hphase] at hr
      split at hr
      · cases hr
      · rename_i o ho
        obtain ⟨hok, hr⟩ := bif_some hr
        have hun' : (L.setIfInBounds i true).getD k true = false := by rw [getD_set_ne true (Ne.symm ((okTake_spec hok).2.2.2.2 k rfl).1)]; exact hun
        have hkx : KX ops none none L := trivial
        split at hr
        · cases hr
        · rename_i s1 hw
          obtain ⟨e1, e2⟩ := wanted_sound hm.ar hw
          split at hr
          · rename_i f1 hf1
            have ok1 := SOK.of_sub (hphase_sub hc _ _ _ _ _ _ hr) okS
            have hm1 : Mom w0 ops none L pend s1 f pc μ a w fuel := ⟨hm.size, hm.fuel, hm.pcr, hm.sp, hm.r.like e1, hm.ar, hm.ex⟩
            refine take_case (kx := none) (x := none) (v := undef) (T := fun _ => True) (pc' := pc) hsel hQ ho hok hkx (fun k h => by cases h) hm1 (.inr ⟨e2 ok1, rfl⟩) trivial hm.pcr hm.ex (fun l w' => ⟨fun h => h.1, fun h => ⟨h, .inr trivial⟩⟩) (put_sound hm.ar undef_vr hf1) ?_
            exact fun fuel' hm' => ih _ _ _ _ _ _ _ _ _ hμ hun' hm' hr
          · cases hr
        · rename_i s1 hw
          obtain ⟨e1, e2⟩ := wanted_sound hm.ar hw
          split at hr
          · rename_i v z s2 hv
            split at hr
            · rename_i f1 hf1
              obtain ⟨hheld, hr⟩ := bif_some hr
              have hr1 := hm.r.like e1
              have he := ev_sound hr1 hm.ar
              obtain ⟨g1, g2⟩ := hstill_sound hr1 he hv
              have ok2 := SOK.of_sub (hphase_sub hc _ _ _ _ _ _ hr) okS
              obtain ⟨v', b, k1, k2, k3⟩ := g2 ok2
              have hy : YieldsIf P ops (fun w' => BlkOK μ w w' z b) o v' a := .inl ⟨e2 (SOK.of_sub g1.sub ok2), fun w' hw' => k1 w' hw'⟩
              have hm1 : Mom w0 ops none L pend s2 f pc μ a w fuel := ⟨hm.size, hm.fuel, hm.pcr, hm.sp, hr1.like g1, hm.ar, hm.ex⟩
              cases z with
              | none =>
                refine take_case (kx := none) (x := none) (pc' := pc) hsel hQ ho hok hkx (fun k h => by cases h) hm1 hy trivial hm.pcr hm.ex (fun l w' => ⟨fun h => h.1, fun h => ⟨h, .inr trivial⟩⟩) (put_sound hm.ar k2 hf1) ?_
                exact fun fuel' hm' => ih _ _ _ _ _ _ _ _ _ hμ hun' hm' hr
              | some z =>
                have hbz : BlkZ μ z b := by
                  cases z with
                  | none => exact k3.1
                  | some z => exact k3.1
                have hne : w.heap[b]? ≠ none := by
                  cases z with
                  | none => obtain ⟨O, hO⟩ := hbz; rw [hm.r.fz _ _ hO]; simp
                  | some z =>
                    obtain ⟨p, hp, rfl⟩ := hbz
                    have := held_lt hm1.r hheld hp
                    simp [this]
                have hT : ∀ w', BlkOK μ w w' (some z) b ↔ w'.heap[b]? = w.heap[b]? := fun w' => by
                  cases z with
                  | none => exact ⟨fun h => h.2, fun h => ⟨hbz, h⟩⟩
                  | some z => exact ⟨fun h => h.2, fun h => ⟨hbz, h⟩⟩
                refine take_case (kx := none) (x := none) (pc' := (i, b, w.heap[b]?) :: pc) hsel hQ ho hok hkx (fun k h => by cases h) hm1 hy k3 (.cons hbz hm.pcr) (fun y hy => (List.mem_cons.1 hy).elim (fun e => by subst e; exact hne) (hm.ex y)) (fun l w' => ⟨fun h y hy => ?_, fun h => ⟨fun y hy => h y (List.mem_cons_of_mem _ hy), ?_⟩⟩) (put_sound hm.ar k2 hf1) ?_
                · rcases List.mem_cons.1 hy with rfl | hy
                  · exact h.2.imp id fun hh => (hT w').1 hh
                  · exact h.1 y hy
                · exact (h _ (List.mem_cons_self ..)).imp id fun hh => (hT w').2 hh
                · exact fun fuel' hm' => ih _ _ _ _ _ _ _ _ _ hμ hun' hm' hr
            · cases hr
          · cases hr
    | st c =>
      have hr0 := hr
      simp only [hphase] at hr
      split at hr
      · cases hr
      · rename_i o ho
        obtain ⟨hok, hr⟩ := bif_some hr
        obtain ⟨q1, q2, q3, q4⟩ := okSt_spec hok
        have hun' : (L.setIfInBounds c true).getD k true = false := by rw [getD_set_ne true (Ne.symm (q4 k rfl).1)]; exact hun
        split at hr
        · rename_i s1 rs hl
          split at hr
          · rename_i s2 f2 hs
            split at hr
            · rename_i s3 hu
              obtain ⟨f0, rfl, hf0⟩ := fuel_step hm.size q2 hm.fuel
              refine ⟨fun h0 => (by rw [h0] at q2; cases q2), fun j hj => ?_⟩
              rcases q3 j hj with rfl | hjk
              · exact st_branch (kx := none) (x := none) hg hc hsel ho trivial q1 hm hl hs hu (SOK.of_sub (hphase_sub hc _ _ _ _ _ _ hr) okS) hf0 fun μ' a' w' pc' hle hm' => ih _ _ _ _ _ _ _ _ _ (Mu.le_trans hμ hle) hun' hm' hr
              · cases hjk
                obtain ⟨f0', e, hf0'⟩ := fuel_step hm.size hj hm.fuel
                cases e
                refine alloc_branch hst hk hun hgd hrun hm hf0' fun hb hkx hm' => ?_
                exact phaseA hg hc hsel hQ rfl (fin _ _ hb (heap_alloc_new w _) (w0.fresh w _ hm.r.below (Nat.le_refl _))) okS _ _ _ _ _ _ _ _ _ _ hμ hkx hm' hr0
            · cases hr
          · cases hr
        · cases hr

end
end Go.Hx

namespace Go.Hx
open Go Go.RowKit

def hdraw (P : Program) (call : HCall) (ops : Array Oper) (s : St) (f : HF) : Option (St × HF) :=
  bif P.follows .mixedOrders && Region.noSelect ops then
    match firstCommit (plan ops (ops.size + 1) (Array.replicate ops.size false)) with
    | none => match hphase P call ops none (plan ops (ops.size + 1) (Array.replicate ops.size false)) (Array.replicate ops.size false) [] s f with
      | some ([], L, _, s', f') => bif (Region.ready .any ops L).isEmpty then some (s', f') else none
      | _ => none
    | some k => match hphase P call ops (some k) (plan ops (ops.size + 1) (Array.replicate ops.size false)) (Array.replicate ops.size false) [] s f with
      | some (.commit _ :: r, L, pend, s', f') =>
        bif !stOf ops k && !(L.getD k true) && (Region.ready .any ops L).contains k && (Region.ready .any ops L).all (fun j => Nat.beq j k) && !((Array.replicate ops.size false).getD k true) then
          match ops[k]? with
          | some ok => match hAllocO P ok with
            | some ho => match Tr.set 64 s'.h s'.next ho, f'.put ok.dst (hAllocV ok s'.next) with
              | some t, some f2 => match hphase P call ops none r (L.setIfInBounds k true) pend { s' with h := t, next := s'.next + 1 } f2 with
                | some ([], L2, _, s3, f3) => bif (Region.ready .any ops L2).isEmpty then some (s3, f3) else none
                | _ => none
              | _, _ => none
            | none => none
          | none => none
        else none
      | _ => none
  else none

section
variable {w0 : Base} {μ : Mu} {s : St} {w : World} {P : Program} {ops : Array Oper} {f : HF} {a : Act}

theorem wpAnyG_end {Q : Exit → Act → World → Prop} {S : Array Bool → World → Prop} {L : Array Bool} (hr : Region.ready .any ops L = []) (h : Q .normal a w) : ∀ fuel, wpAnyG P .any ops Q S fuel L a w
  | 0 => ⟨hr, h⟩
  | _ + 1 => ⟨fun _ => h, by rw [hr]; simp⟩

theorem hdraw_sub {call : HCall} (hc : CallOK P call) {s' : St} {f' : HF} (hr : hdraw P call ops s f = some (s', f')) : s.sub s' := by
  unfold hdraw at hr
  obtain ⟨_, hr⟩ := bif_some hr
  split at hr
  · split at hr
    · rename_i hp
      obtain ⟨_, hr⟩ := bif_some hr
      cases hr
      exact hphase_sub hc _ _ _ _ _ _ hp
    · cases hr
  · split at hr
    · rename_i hp
      obtain ⟨_, hr⟩ := bif_some hr
      split at hr
      · split at hr
        · split at hr
          · split at hr
            · rename_i hp2
              obtain ⟨_, hr⟩ := bif_some hr
              cases hr
              exact St.sub_trans (hphase_sub hc _ _ _ _ _ _ hp) (hphase_sub hc _ _ _ _ _ _ hp2)
            · cases hr
          · cases hr
        · cases hr
      · cases hr
    · cases hr

theorem hdraw_sound (hg : NoG P) {call : HCall} (hc : CallOK P call) {id : Nat} {μ0 : Mu} {s' : St} {f' : HF} (hμ : μ0.le μ) (h : R w0 μ s w) (ha : AR μ f a)
    (hr : hdraw P call ops s f = some (s', f')) (ok' : SOK s') : (Code.region id ops true).wp P (Post w0 μ0 .normal s' f') a w := by
  unfold hdraw at hr
  obtain ⟨hb, hr⟩ := bif_some hr
  simp only [Bool.and_eq_true] at hb
  have hQ : ∀ c a w, ¬ Post w0 μ0 .normal s' f' (.panic c) a w := fun c a w hh => by cases hh.1
  have hdrew : R w0 μ s { w with drawn := w.drawn + 1 } := h.drew
  have m0 : Mom w0 ops none (Array.replicate ops.size false) [] s f [] μ a { w with drawn := w.drawn + 1 } ops.size :=
    ⟨by simp, Nat.le_add_right _ _, .nil, (fun y hy => by cases hy), hdrew, ha, (fun y hy => by cases hy)⟩
  refine wp_region_any hb.1 (wpAny_of_G (S := Sp ops []) _ _ _ _ ?_)
  split at hr
  · split at hr
    · rename_i L pend s1 f1 hp
      obtain ⟨he, hr⟩ := bif_some hr
      cases hr
      have he : Region.ready .any ops L = [] := by simpa using he
      exact phaseA (kx := none) (x := none) hg hc hb.2 hQ rfl (fun μ' a' w' pc' fuel' hle _ hm => wpAnyG_end he ⟨rfl, μ', Mu.le_trans hμ hle, hm.r, hm.ar⟩ _) ok' _ _ _ _ _ _ _ _ _ _ (Mu.le_refl _) trivial m0 hp
    · cases hr
  · rename_i k hfc
    split at hr
    · rename_i k2 r L pend s1 f1 hp
      obtain ⟨hck, hr⟩ := bif_some hr
      simp only [Bool.and_eq_true, Bool.not_eq_true'] at hck
      obtain ⟨⟨⟨⟨c1, c2⟩, c3⟩, c4⟩, c5⟩ := hck
      split at hr
      · rename_i ok hok
        split at hr
        · rename_i ho hao
          split at hr
          · rename_i t f2 ht hf2
            split at hr
            · rename_i L2 pend2 s3 f3 hp2
              obtain ⟨he, hr⟩ := bif_some hr
              cases hr
              have he : Region.ready .any ops L2 = [] := by simpa using he
              obtain ⟨_, O, room, hrun, hadopt, hval⟩ := allocO_run hao
              have c4' : ∀ j ∈ Region.ready .any ops L, j = k := fun j hj => by
                rw [List.all_eq_true] at c4
                exact (beq_iff _ _).1 (c4 j hj)
              have hsub2 := hphase_sub hc _ _ _ _ _ _ hp2
              have okS1 : SOK s1 := SOK.of_sub (s := s1) hsub2 ok'
              refine phaseB hg hc hb.2 hQ c1 hok hao hrun (fun w1 b hb1 hO hwr μ' a' w' pc' fuel' hle hkx hm => ?_) ⟨by simpa using c3, c4'⟩ okS1 _ _ _ _ _ _ _ _ _ _ (Mu.le_refl _) c5 m0 hp
              have hR := hm.r.adopt hwr ho O room hO ht (hadopt _)
              have hlep : μ'.le (μ'.put s1.next ⟨b, 0, room, nobd⟩) := Mu.put_le (hm.r.fresh _ (Nat.le_refl _))
              have hA := put_sound (hm.ar.mono hlep) (hval _ s1.next b (Mu.put_same _ _ _)) hf2
              exact phaseA (kx := none) (x := none) (μ0 := μ) hg hc hb.2 hQ rfl (fun μ'' a'' w'' pc'' fuel'' hle' _ hm' => wpAnyG_end he ⟨rfl, μ'', Mu.le_trans hμ hle', hm'.r, hm'.ar⟩ _) ok' _ _ _ _ _ _ _ _ _ _
                (Mu.le_trans hle hlep) trivial ⟨by simpa using hm.size, hm.fuel, hm.pcr.mono hlep, hm.sp, hR, hA, hm.ex⟩ hp2
            · cases hr
          · cases hr
        · cases hr
      · cases hr
    · cases hr

end
end Go.Hx

namespace Go.Hx
open Go Go.RowKit

section
variable {w0 : Base} {μ : Mu} {s : St} {w : World} {P : Program} {f : HF} {a : Act}

/-! ### Code -/
def hloop (g : St → HF → Option (HX × St × HF)) : Nat → St → HF → Option (HX × St × HF)
  | 0, _, _ => none
  | n + 1, s, f => match g s f with
    | some (.normal, s', f') => hloop g n s' f'
    | r => r

def hcode (P : Program) (call : HCall) (lf : Nat) : Code → St → HF → Option (HX × St × HF)
  | .skip, s, f => some (.normal, s, f)
  | .label _, s, f => some (.normal, s, f)
  | .region _ ops true, s, f => match hdraw P call ops s f with
    | some (s', f') => some (.normal, s', f')
    | none => none
  | .region _ ops false, s, f => match hops P call ops.toList ops.toList s f with
    | some (s', f') => some (.normal, s', f')
    | none => none
  | .seq x y, s, f => match hcode P call lf x s f with
    | some (.normal, s', f') => hcode P call lf y s' f'
    | r => r
  | .cond c x y, s, f => match f.ev s c with
    | some (.bool b) => match popB b s with
      | some (true, s') => hcode P call lf x s' f
      | some (false, s') => hcode P call lf y s' f
      | none => none
    | _ => none
  | .block id x, s, f => match hcode P call lf x s f with
    | some (.exit i, s', f') => bif Nat.beq i id then some (.normal, s', f') else some (.exit i, s', f')
    | r => r
  | .loop x, s, f => hloop (hcode P call lf x) lf s f
  | .exit id, s, f => some (.exit id, s, f)
  | .ret, s, f => some (.ret, s, f)
  | _, _, _ => none

theorem Post.le {x : HX} {s : St} {f : HF} {μ0 μ1 : Mu} (h : μ0.le μ1) {e : Exit} {a : Act} {w : World} (k : Post w0 μ1 x s f e a w) : Post w0 μ0 x s f e a w :=
  ⟨k.1, let ⟨μ', k1, k2, k3⟩ := k.2; ⟨μ', Mu.le_trans h k1, k2, k3⟩⟩

def CodeSub (g : St → HF → Option (HX × St × HF)) : Prop := ∀ (s s' : St) (f f' : HF) (x : HX), g s f = some (x, s', f') → s.sub s'
def CodeOK (P : Program) (c : Code) (g : St → HF → Option (HX × St × HF)) : Prop :=
  ∀ (w0 : Base) (μ : Mu) (s s' : St) (w : World) (f f' : HF) (a : Act) (x : HX), R w0 μ s w → AR μ f a → g s f = some (x, s', f') → SOK s' → c.wp P (Post w0 μ x s' f') a w

theorem hloop_sub {g : St → HF → Option (HX × St × HF)} (hk : CodeSub g) : ∀ n, CodeSub (hloop g n) := by
  intro n
  induction n with
  | zero => intro s s' f f' x h; cases h
  | succ n ih =>
    intro s s' f f' x h
    simp only [hloop] at h
    split at h
    · rename_i h1; exact St.sub_trans (hk _ _ _ _ _ h1) (ih _ _ _ _ _ h)
    · exact hk _ _ _ _ _ h

theorem hcode_sub {call : HCall} (hc : CallOK P call) (lf : Nat) : ∀ c : Code, CodeSub (hcode P call lf c) := by
  intro c
  induction c with
  | skip => intro s s' f f' x h; cases h; exact s.sub_refl
  | label l => intro s s' f f' x h; cases h; exact s.sub_refl
  | region id ops draw =>
    intro s s' f f' x h
    cases draw with
    | true =>
      simp only [hcode] at h
      split at h
      · rename_i h1; cases h; exact hdraw_sub hc h1
      · cases h
    | false =>
      simp only [hcode] at h
      split at h
      · rename_i h1; cases h; exact hops_sub hc _ _ _ _ _ h1
      · cases h
  | seq x y ihx ihy =>
    intro s s' f f' e h
    simp only [hcode] at h
    split at h
    · rename_i h1; exact St.sub_trans (ihx _ _ _ _ _ h1) (ihy _ _ _ _ _ h)
    · exact ihx _ _ _ _ _ h
  | cond c x y ihx ihy =>
    intro s s' f f' e h
    simp only [hcode] at h
    split at h
    · split at h
      · rename_i hp; exact St.sub_trans (popB_like hp).1.sub (ihx _ _ _ _ _ h)
      · rename_i hp; exact St.sub_trans (popB_like hp).1.sub (ihy _ _ _ _ _ h)
      · cases h
    · cases h
  | block id x ihx =>
    intro s s' f f' e h
    simp only [hcode] at h
    split at h
    · rename_i i s1 f1 h1
      cases hb : Nat.beq i id with
      | true => rw [hb] at h; cases h; exact ihx _ _ _ _ _ h1
      | false => rw [hb] at h; cases h; exact ihx _ _ _ _ _ h1
    · exact ihx _ _ _ _ _ h
  | loop x ihx => intro s s' f f' e h; exact hloop_sub ihx lf _ _ _ _ _ h
  | exit id => intro s s' f f' x h; cases h; exact s.sub_refl
  | ret => intro s s' f f' x h; cases h; exact s.sub_refl
  | _ => intro s s' f f' x h; cases h

theorem hloop_sound {c : Code} {g : St → HF → Option (HX × St × HF)} (hk : CodeOK P c g) (hsub : CodeSub g) : ∀ (n : Nat) (μ : Mu) (s s' : St) (w : World) (f f' : HF) (a : Act) (x : HX),
    R w0 μ s w → AR μ f a → hloop g n s f = some (x, s', f') → SOK s' → Code.rounds P c (Post w0 μ x s' f') n a w := by
  intro n
  induction n with
  | zero => intro μ s s' w f f' a x _ _ h; cases h
  | succ n ih =>
    intro μ s s' w f f' a x h ha hr ok
    simp only [hloop] at hr
    rw [rounds_succ]
    split at hr
    · rename_i s1 f1 h1
      refine wp_mono (hk w0 μ s s1 w f f1 a .normal h ha h1 (SOK.of_sub (hloop_sub hsub n _ _ _ _ _ hr) ok)) fun e a' w' ⟨he, μ', k1, k2, k3⟩ => ?_
      cases he
      have := ih μ' s1 s' w' f1 f' a' x k2 k3 hr ok
      have mono : ∀ (n : Nat) (a : Act) (w : World), Code.rounds P c (Post w0 μ' x s' f') n a w → Code.rounds P c (Post w0 μ x s' f') n a w := by
        intro n
        induction n with
        | zero => intro a w h; exact h
        | succ n ihn =>
          intro a w h
          rw [rounds_succ] at h ⊢
          refine wp_mono h fun e a' w' hq => ?_
          cases e <;> first | exact ihn _ _ hq | exact Post.le k1 hq
      exact mono n a' w' this
    · rename_i hne
      refine wp_mono (hk w0 μ s s' w f f' a x h ha hr ok) fun e a' w' hq => ?_
      have he := hq.1
      cases x with
      | normal => exact absurd hr (hne s' f')
      | exit i => cases he; exact hq
      | ret => cases he; exact hq

theorem hcode_sound (hg : NoG P) {call : HCall} (hc : CallOK P call) (lf : Nat) : ∀ c : Code, CodeOK P c (hcode P call lf c) := by
  intro c
  induction c with
  | skip =>
    intro w0 μ s s' w f f' a x h ha hr _
    cases hr
    exact wp_skip ⟨rfl, μ, Mu.le_refl _, h, ha⟩
  | label l =>
    intro w0 μ s s' w f f' a x h ha hr _
    cases hr
    exact wp_label ⟨rfl, μ, Mu.le_refl _, h, ha⟩
  | region id ops draw =>
    intro w0 μ s s' w f f' a x h ha hr ok
    cases draw with
    | true =>
      simp only [hcode] at hr
      split at hr
      · rename_i s1 f1 h1
        cases hr
        exact hdraw_sound hg hc (Mu.le_refl _) h ha h1 ok
      · cases hr
    | false =>
      simp only [hcode] at hr
      split at hr
      · rename_i s1 f1 h1
        cases hr
        exact wp_region_list (hops_sound hg hc _ μ _ _ _ _ _ _ (Mu.le_refl _) h ha h1 ok)
      · cases hr
  | seq x y ihx ihy =>
    intro w0 μ s s' w f f' a e h ha hr ok
    simp only [hcode] at hr
    refine wp_seq ?_
    split at hr
    · rename_i s1 f1 h1
      refine wp_mono (ihx w0 μ s s1 w f f1 a .normal h ha h1 (SOK.of_sub (hcode_sub hc lf _ _ _ _ _ _ hr) ok)) fun e1 a' w' ⟨he, μ', k1, k2, k3⟩ => ?_
      cases he
      exact wp_mono (ihy w0 μ' s1 s' w' f1 f' a' e k2 k3 hr ok) fun _ _ _ hq => Post.le k1 hq
    · rename_i hne
      refine wp_mono (ihx w0 μ s s' w f f' a e h ha hr ok) fun e1 a' w' hq => ?_
      have he := hq.1
      cases e with
      | normal => exact absurd hr (hne s' f')
      | exit i => cases he; exact hq
      | ret => cases he; exact hq
  | cond c x y ihx ihy =>
    intro w0 μ s s' w f f' a e h ha hr ok
    simp only [hcode] at hr
    split at hr
    · rename_i b hcv
      have hvr := ev_sound h ha _ _ hcv
      split at hr
      · rename_i s1 hp
        obtain ⟨k1, k2⟩ := popB_like hp
        have := k2 (SOK.of_sub (hcode_sub hc lf _ _ _ _ _ _ hr) ok)
        subst this
        refine wp_cond_true ?_ (ihx w0 μ s1 s' w f f' a e (h.like k1) ha hr ok)
        generalize a.eval c = vc at hvr ⊢
        cases hvr
        rfl
      · rename_i s1 hp
        obtain ⟨k1, k2⟩ := popB_like hp
        have := k2 (SOK.of_sub (hcode_sub hc lf _ _ _ _ _ _ hr) ok)
        subst this
        refine wp_cond_false ?_ (ihy w0 μ s1 s' w f f' a e (h.like k1) ha hr ok)
        generalize a.eval c = vc at hvr ⊢
        cases hvr
        rfl
      · cases hr
    · cases hr
  | block id x ihx =>
    intro w0 μ s s' w f f' a e h ha hr ok
    simp only [hcode] at hr
    refine wp_block ?_
    split at hr
    · rename_i i s1 f1 h1
      have ok1 : SOK s1 := by
        cases hb : Nat.beq i id with
        | true => rw [hb] at hr; cases hr; exact ok
        | false => rw [hb] at hr; cases hr; exact ok
      refine wp_mono (ihx w0 μ s s1 w f f1 a (.exit i) h ha h1 ok1) fun e1 a' w' hq => ?_
      obtain ⟨he, hq'⟩ := hq
      cases he
      simp only [Exit.inBlock, HX.ex]
      cases hb : Nat.beq i id with
      | true =>
        rw [hb] at hr
        cases hr
        rw [if_pos ((beq_iff _ _).1 hb)]
        exact ⟨rfl, hq'⟩
      | false =>
        rw [hb] at hr
        cases hr
        rw [if_neg (fun e => by rw [(beq_iff _ _).2 e] at hb; cases hb)]
        exact ⟨rfl, hq'⟩
    · rename_i hne
      refine wp_mono (ihx w0 μ s s' w f f' a e h ha hr ok) fun e1 a' w' hq => ?_
      have he := hq.1
      cases e with
      | normal => cases he; exact hq
      | exit i => exact absurd hr (hne i s' f')
      | ret => cases he; exact hq
  | loop x ihx =>
    intro w0 μ s s' w f f' a e h ha hr ok
    simp only [hcode] at hr
    exact wp_loop_rounds lf (hloop_sound ihx (hcode_sub hc lf x) lf μ s s' w f f' a e h ha hr ok)
  | exit id =>
    intro w0 μ s s' w f f' a x h ha hr _
    cases hr
    exact wp_exit ⟨rfl, μ, Mu.le_refl _, h, ha⟩
  | ret =>
    intro w0 μ s s' w f f' a x h ha hr _
    cases hr
    exact wp_ret ⟨rfl, μ, Mu.le_refl _, h, ha⟩
  | _ => intro w0 μ s s' w f f' a x h ha hr; cases hr

end
end Go.Hx

namespace Go.Hx
open Go Go.RowKit

def hArgs : Nat → List Value → Tr Value → Option (Tr Value)
  | _, [], t => some t
  | i, v :: l, t => match Tr.set 64 t i v with
    | some t' => hArgs (i + 1) l t'
    | none => none

theorem hArgs_get : ∀ (l : List Value) (i : Nat) (t t' : Tr Value), hArgs i l t = some t' → ∀ d, t'.get d = if i ≤ d ∧ d < i + l.length then l[d - i]? else t.get d := by
  intro l
  induction l with
  | nil =>
    intro i t t' h d
    simp only [hArgs, Option.some.injEq] at h
    subst h
    rw [if_neg (by intro h; simp at h; omega)]
  | cons v l ih =>
    intro i t t' h d
    simp only [hArgs] at h
    split at h
    · rename_i t1 h1
      rw [ih _ _ _ h d, Tr.get_set 64 t t1 i v h1]
      by_cases hd : d = i
      · subst hd
        rw [if_neg (by omega), if_pos rfl, if_pos (by simp)]
        simp
      · by_cases h2 : i + 1 ≤ d ∧ d < i + 1 + l.length
        · rw [if_pos h2, if_pos (by simp; omega)]
          have : d - i = (d - (i + 1)) + 1 := by omega
          rw [this, List.getElem?_cons_succ]
        · rw [if_neg h2, if_neg hd, if_neg (by simp; omega)]
    · cases h

def hRes (P : Program) (f : HF) : List ResultVar → St → Option (List Value × St)
  | [], s => some ([], s)
  | .tmp t :: l, s => bif Nat.blt t f.n && !isHv (f.get t) then (hRes P f l s).map fun r => (f.get t :: r.1, r.2) else none
  | .cell a t :: l, s => bif Nat.blt a f.n then (match hLoad P s t (f.get a) with
      | some (v, s1) => (hRes P f l s1).map fun r => (v :: r.1, r.2)
      | none => none) else none

def hTuple : List Value → Value
  | [v] => v
  | l => .tuple ⟨l⟩

section
variable {w0 : Base} {μ : Mu} {s : St} {w : World} {P : Program} {f : HF} {a : Act}

theorem enter_ar {args args' : List Value} (h : VRs μ args args') {t : Tr Value} (ht : hArgs 0 args .lf = some t) (n : Nat) :
    AR μ ⟨t, args.length + (n - args.length), [], undef⟩ { tmps := (⟨args'⟩ : Array Value) ++ Array.replicate (n - (⟨args'⟩ : Array Value).size) undef, defers := [] } := by
  have hlen := h.length
  have hg := hArgs_get args 0 .lf t ht
  refine ⟨by simp [hlen], fun d hd _ => ?_, .nil⟩
  simp only [HF.get, hg]
  by_cases hda : d < args.length
  · rw [if_pos (by omega)]
    have h1 : args[d]? = some (args[d]) := List.getElem?_eq_getElem hda
    obtain ⟨v', k1, k2⟩ := h.get d _ h1
    simp only [Nat.sub_zero, h1, Option.getD_some]
    have : ((⟨args'⟩ : Array Value) ++ Array.replicate (n - (⟨args'⟩ : Array Value).size) undef).getD d undef = v' := by
      rw [Array.getD_eq_getD_getElem?, Array.getElem?_append_left (by simp; omega)]
      simp [k1]
    rw [this]
    exact k2
  · rw [if_neg (by omega)]
    have : ((⟨args'⟩ : Array Value) ++ Array.replicate (n - (⟨args'⟩ : Array Value).size) undef).getD d undef = undef := by
      rw [Array.getD_eq_getD_getElem?, Array.getElem?_append_right (by simp; omega), Array.getElem?_replicate]
      split <;> rfl
    rw [this]
    exact undef_vr

def resOne (tmps : Array Value) : ResultVar → Sem Value
  | .tmp t => pure (tmps.getD t undef)
  | .cell b t => do loadVar t (← asAddr (tmps.getD b undef))

theorem results_eq (fn : Func) (tmps : Array Value) : results fn tmps = (do let vs ← fn.results.mapM (resOne tmps); pure (if h : vs.size = 1 then vs[0] else .tuple vs)) := by
  unfold results
  refine congrArg (fun m => (do let vs ← Array.mapM m fn.results; pure (if h : vs.size = 1 then vs[0] else .tuple vs) : Sem Value)) ?_
  funext x
  cases x <;> rfl

theorem hRes_like : ∀ (l : List ResultVar) (s s' : St) (r : List Value), hRes P f l s = some (r, s') → s.like s' := by
  intro l
  induction l with
  | nil => intro s s' r h; cases h; exact s.like_refl
  | cons x l ih =>
    intro s s' r h
    cases x with
    | tmp t =>
      simp only [hRes] at h
      obtain ⟨_, h⟩ := bif_some h
      exact map_like h fun a ha => ih _ _ _ ha
    | cell b t =>
      simp only [hRes] at h
      obtain ⟨_, h⟩ := bif_some h
      split at h
      · rename_i hl; exact map_like h fun a ha => (hLoad_like hl).trans (ih _ _ _ ha)
      · cases h

theorem res_sound (ha : AR μ f a) : ∀ (l : List ResultVar) (r : List Value) (s s' : St), R w0 μ s w → hRes P f l s = some (r, s') → SOK s' →
    ∃ r', (l.mapM (resOne a.tmps)).run P w = .ok r' w ∧ VRs μ r r' := by
  intro l
  induction l with
  | nil => intro r s s' h hr _; cases hr; exact ⟨[], rfl, .nil⟩
  | cons x l ih =>
    intro r s s' h hr ok
    cases x with
    | tmp t =>
      simp only [hRes] at hr
      obtain ⟨ht, hr⟩ := bif_some hr
      simp only [Bool.and_eq_true, Bool.not_eq_true'] at ht
      simp only [Option.map_eq_some_iff, Prod.mk.injEq] at hr
      obtain ⟨⟨r1, s1⟩, h1, rfl, rfl⟩ := hr
      obtain ⟨r', k1, k2⟩ := ih r1 s s1 h h1 ok
      refine ⟨a.tmps.getD t undef :: r', ?_, .cons (ha.vals t (blt_lt ht.1) ht.2) k2⟩
      simp only [List.mapM_cons, resOne, Sem.run_bind, Sem.run_pure, Result.andThen_ok, k1]
    | cell b t =>
      simp only [hRes] at hr
      obtain ⟨hb, hr⟩ := bif_some hr
      split at hr
      · rename_i v s1 hv
        simp only [Option.map_eq_some_iff, Prod.mk.injEq] at hr
        obtain ⟨⟨r1, s2⟩, h1, rfl, rfl⟩ := hr
        have hnh : isHv (f.get b) = false := by
          rcases hLoad_ptr hv with ⟨_, _, e⟩ | ⟨_, e⟩ <;> rw [e] <;> rfl
        have hbv := ha.vals b (blt_lt hb) hnh
        obtain ⟨q1, q2⟩ := load_still h hv hbv
        obtain ⟨r', k1, k2⟩ := ih r1 s1 s2 (h.like q1) h1 ok
        obtain ⟨v', bb, off, k3, k4, k5, _⟩ := q2 (SOK.of_sub (hRes_like _ _ _ _ h1).sub ok)
        refine ⟨v' :: r', ?_, .cons k4 k2⟩
        have k7 : (asAddr (a.tmps.getD b undef)).run P w = .ok ⟨bb, off, none⟩ w := by rw [k3]; rfl
        have k8 : (resOne a.tmps (.cell b t)).run P w = .ok v' w := by simp only [resOne, Sem.run_bind, k7, Result.andThen_ok, (k5 w rfl).2]
        simp only [List.mapM_cons, Sem.run_bind, k8, Sem.run_pure, Result.andThen_ok, k1]
      · cases hr

theorem results_sound (h : R w0 μ s w) (ha : AR μ f a) {fn : Func} {r : List Value} {s' : St} (hr : hRes P f fn.results.toList s = some (r, s')) (ok : SOK s') :
    ∃ v', (results fn a.tmps).run P w = .ok v' w ∧ VR μ (hTuple r) v' := by
  obtain ⟨r', k1, k2⟩ := res_sound ha _ _ _ _ h hr ok
  rw [results_eq, Sem.run_bind, Array.mapM_eq_mapM_toList, map_eq_pure_bind, Sem.run_bind, k1]
  simp only [Result.andThen_ok, Sem.run_pure]
  refine ⟨_, rfl, ?_⟩
  cases k2 with
  | nil => exact .tuple .nil
  | cons h1 h2 => cases h2 with
    | nil => exact h1
    | cons h2 h3 => exact .tuple (.cons h1 (.cons h2 h3))

end

/-- What a deferred call does, no panic being under way. -/
abbrev DCall := FuncId → List Value → St → Option St

def DOK (P : Program) (dk : DCall) : Prop :=
  ∀ (s s' : St) (g : FuncId) (args : List Value), dk g args s = some s' → s.sub s' ∧ (SOK s' → ∀ (w0 : Base) (μ : Mu) (w : World) (args' : List Value), R w0 μ s w → VRs μ args args' →
    CallsD P g ⟨args'⟩ .returning w fun e u' w' => ∃ v' μ', e = .returned v' ∧ u' = .returning ∧ μ.le μ' ∧ R w0 μ' s' w')

def noD : DCall := fun _ _ _ => none
theorem noD_ok {P : Program} : DOK P noD := fun _ _ _ _ h => by cases h

def hDefers (P : Program) (dk : DCall) : List HDef → St → Option St
  | [], s => some s
  | d :: l, s => match d.fn with
    | .func g => bif hasBody P g then (match dk g (d.args ++ d.cap) s with
      | some s' => hDefers P dk l s'
      | none => none) else none
    | _ => none

theorem hDefers_sub {P : Program} {dk : DCall} (hd : DOK P dk) : ∀ (l : List HDef) (s s' : St), hDefers P dk l s = some s' → s.sub s' := by
  intro l
  induction l with
  | nil => intro s s' h; cases h; exact s.sub_refl
  | cons d l ih =>
    intro s s' h
    simp only [hDefers] at h
    split at h
    · obtain ⟨_, h⟩ := bif_some h
      split at h
      · rename_i hs; exact St.sub_trans (hd _ _ _ _ hs).1 (ih _ _ h)
      · cases h
    · cases h

/-- The end of a function: what it hands back. -/
def hEnd (P : Program) (dk : DCall) (fn : Func) (s : St) (f : HF) : Option (Value × St) :=
  match hDefers P dk f.ds s with
  | some s' => (hRes P f fn.results.toList s').map fun r => (hTuple r.1, r.2)
  | none => none

def hbody (P : Program) (lf : Nat) (dk : DCall) (call : HCall) (fn : Func) (args : List Value) (s : St) : Option (Value × St) :=
  match fn.body, hArgs 0 args .lf with
  | some c, some t => match hcode P call lf c s ⟨t, args.length + (fn.ntmps - args.length), [], undef⟩ with
    | some (.normal, s', f') => hEnd P dk fn s' f'
    | some (.ret, s', f') => hEnd P dk fn s' f'
    | _ => none
  | _, _ => none

/-- (hk: calls that are answered by what is shown of them.) -/
def hcall (P : Program) (lf : Nat) (hk : HCall) (dk : DCall) : Nat → HCall
  | 0, _, _, _ => none
  | n + 1, g, args, s => match hk g args s with
    | some r => some r
    | none => match P.funcs[g]? with
      | some fn => hbody P lf dk (hcall P lf hk dk n) fn args s
      | none => none

def noK : HCall := fun _ _ _ => none
theorem noK_ok {P : Program} : CallOK P noK := fun _ _ _ _ _ h => by cases h

section
variable {P : Program}

theorem defers_sound (hg : NoG P) {dk : DCall} (hd : DOK P dk) {fn : Func} {tmps : Array Value} {R' : Ending → World → Prop} {w0 : Base} {μ0 : Mu} {s' : St} (ok : SOK s')
    (hend : ∀ (μ : Mu) (w : World), μ0.le μ → R w0 μ s' w → ∃ v, (results fn tmps).run P w = .ok v w ∧ R' (.returned v) w) :
    ∀ (ds : List HDef) (ds' : List Deferred) (μ : Mu) (s : St) (w : World), μ0.le μ → DsR μ ds ds' → R w0 μ s w → hDefers P dk ds s = some s' → Leaves P fn tmps R' ds' .returning w := by
  intro ds
  induction ds with
  | nil =>
    intro ds' μ s w hμ hds hR hr
    cases hds
    cases hr
    exact hend μ w hμ hR
  | cons d ds ih =>
    intro ds' μ s w hμ hds hR hr
    cases hds with
    | cons h1 h2 t =>
      rename_i fv cap args cap' args' l'
      simp only [hDefers] at hr
      split at hr
      · rename_i g
        obtain ⟨hb, hr⟩ := bif_some hr
        split at hr
        · rename_i s1 hs1
          have hinv : (invoke (.fn (.func g) ⟨cap'⟩) ⟨args'⟩).run P w = .ok (.enter g ⟨args' ++ cap'⟩) w := by
            simp only [invoke]
            have : (⟨args'⟩ : Array Value) ++ ⟨cap'⟩ = ⟨args' ++ cap'⟩ := by apply Array.ext'; simp
            rw [this]
            exact run_callFunc hg hb _ _
          refine leaves_cons (by simp) hinv (((hd s s1 g _ hs1).2 (SOK.of_sub (hDefers_sub hd _ _ _ hr) ok) w0 μ w _ hR (h2.append h1)).mono fun e u' w' ⟨v', μ', e1, e2, e3, e4⟩ => ?_)
          subst e1 e2
          exact ih _ μ' s1 w' (Mu.le_trans hμ e3) (t.mono e3) e4 hr
        · cases hr
      · cases hr

theorem hEnd_sub {dk : DCall} (hd : DOK P dk) {fn : Func} {s s' : St} {f : HF} {v : Value} (h : hEnd P dk fn s f = some (v, s')) : s.sub s' := by
  unfold hEnd at h
  split at h
  · rename_i hds; exact map_sub h fun a ha => St.sub_trans (hDefers_sub hd _ _ _ hds) (hRes_like _ _ _ _ ha).sub
  · cases h

theorem end_sound (hg : NoG P) {dk : DCall} (hd : DOK P dk) {fn : Func} {s s' : St} {f : HF} {v : Value} (he : hEnd P dk fn s f = some (v, s')) (ok : SOK s') {w0 : Base} {μ μ1 : Mu} {a1 : Act} {w1 : World} (hl : μ.le μ1) (hR : R w0 μ1 s w1) (hA : AR μ1 f a1) :
    Leaves P fn a1.tmps (fun e w' => ∃ v' μ', e = .returned v' ∧ μ.le μ' ∧ R w0 μ' s' w' ∧ VR μ' v v') a1.defers .returning w1 := by
  unfold hEnd at he
  split at he
  · rename_i s2 hds
    simp only [Option.map_eq_some_iff, Prod.mk.injEq] at he
    obtain ⟨⟨r, s3⟩, hres, rfl, rfl⟩ := he
    have hlike := hRes_like _ _ _ _ hres
    refine defers_sound hg hd (μ0 := μ1) (s' := s2) (SOK.of_sub hlike.sub ok) (fun μ2 w2 hle hR2 => ?_) _ _ μ1 s w1 (Mu.le_refl _) hA.ds hR hds
    obtain ⟨u, k1, k2⟩ := results_sound hR2 (hA.mono hle) hres ok
    exact ⟨u, k1, u, μ2, rfl, Mu.le_trans hl hle, hR2.like hlike, k2⟩
  · cases he

theorem hcall_sound (hg : NoG P) (lf : Nat) {hk : HCall} (hhk : CallOK P hk) {dk : DCall} (hdk : DOK P dk) : ∀ n, CallOK P (hcall P lf hk dk n) := by
  intro n
  induction n with
  | zero => intro s s' g args v hr; cases hr
  | succ n ih =>
    intro s s' g args v hr
    simp only [hcall] at hr
    split at hr
    · rename_i r hkr
      cases hr
      exact hhk s s' g args v hkr
    · split at hr
      · rename_i fn hfn
        unfold hbody at hr
        split at hr
        · rename_i c t hb ht
          split at hr
          · rename_i s1 f1 hc
            have hs2 := hEnd_sub hdk hr
            refine ⟨St.sub_trans (hcode_sub ih lf _ _ _ _ _ _ hc) hs2, fun ok w0 μ w args' h ha => ?_⟩
            refine calls_of_wp_defers hfn hb ?_
            refine wp_mono (hcode_sound hg ih lf c w0 μ _ _ w _ _ _ _ h (enter_ar ha ht fn.ntmps) hc (SOK.of_sub hs2 ok)) fun e a1 w1 ⟨he, μ1, k1, k2, k3⟩ => ?_
            cases he
            exact end_sound hg hdk hr ok k1 k2 k3
          · rename_i s1 f1 hc
            have hs2 := hEnd_sub hdk hr
            refine ⟨St.sub_trans (hcode_sub ih lf _ _ _ _ _ _ hc) hs2, fun ok w0 μ w args' h ha => ?_⟩
            refine calls_of_wp_defers hfn hb ?_
            refine wp_mono (hcode_sound hg ih lf c w0 μ _ _ w _ _ _ _ h (enter_ar ha ht fn.ntmps) hc (SOK.of_sub hs2 ok)) fun e a1 w1 ⟨he, μ1, k1, k2, k3⟩ => ?_
            cases he
            exact end_sound hg hdk hr ok k1 k2 k3
          · cases hr
        · cases hr
      · cases hr

end
end Go.Hx
