/- Regions that draw their order, whole. -/
import Derived.Test.YtpjfmjemmphheadGreatDoorHx10b
namespace Go.Hx
open Go Go.RowKit

def hdraw (P : Program) (fx : Facts) (call : HCall) (ops : Array Oper) (s : St) (f : HF) : Option (St × HF) :=
  bif P.follows .mixedOrders && Region.noSelect ops then
    match firstCommit (plan ops (ops.size + 1) (Array.replicate ops.size false)) with
    | none => match hphase P fx call ops none (plan ops (ops.size + 1) (Array.replicate ops.size false)) (Array.replicate ops.size false) [] s f with
      | some ([], L, _, s', f') => bif (Region.ready .any ops L).isEmpty then some (s', f') else none
      | _ => none
    | some k => match hphase P fx call ops (some k) (plan ops (ops.size + 1) (Array.replicate ops.size false)) (Array.replicate ops.size false) [] s f with
      | some (.commit _ :: r, L, pend, s', f') =>
        bif !stOf ops k && !(L.getD k true) && (Region.ready .any ops L).contains k && (Region.ready .any ops L).all (fun j => Nat.beq j k) && !((Array.replicate ops.size false).getD k true) then
          match ops[k]? with
          | some ok => match hAllocO P ok with
            | some ho => match Tr.set 64 s'.h s'.next ho, f'.put ok.dst (hAllocV ok s'.next) with
              | some t, some f2 => match hphase P fx call ops none r (L.setIfInBounds k true) pend { s' with h := t, next := s'.next + 1 } f2 with
                | some ([], L2, _, s3, f3) => bif (Region.ready .any ops L2).isEmpty then some (s3, f3) else none
                | _ => none
              | _, _ => none
            | none => none
          | none => none
        else none
      | _ => none
  else none

section
variable {η : Env} {w0 : Base} {μ : Mu} {s : St} {w : World} {P : Program} {fx : Facts} {ops : Array Oper} {f : HF} {a : Act}

theorem wpAnyG_end {Q : Exit → Act → World → Prop} {S : Array Bool → World → Prop} {L : Array Bool} (hr : Region.ready .any ops L = []) (h : Q .normal a w) : ∀ fuel, wpAnyG P .any ops Q S fuel L a w
  | 0 => ⟨hr, h⟩
  | _ + 1 => ⟨fun _ => h, by rw [hr]; simp⟩

theorem hdraw_sound (hfx : FxOK P η fx) (hg : NoG P) {call : HCall} (hc : CallOK P η call) {id : Nat} {μ0 : Mu} {s' : St} {f' : HF} (hμ : μ0.le μ) (h : R η w0 μ s w) (ha : AR η μ f a)
    (hr : hdraw P fx call ops s f = some (s', f')) : (Code.region id ops true).wp P (Post η w0 μ0 .normal s' f') a w := by
  unfold hdraw at hr
  obtain ⟨hb, hr⟩ := bif_some hr
  simp only [Bool.and_eq_true] at hb
  have hQ : ∀ c a w, ¬ Post η w0 μ0 .normal s' f' (.panic c) a w := fun c a w hh => by cases hh.1
  have hdrew : R η w0 μ s { w with drawn := w.drawn + 1 } := h.drew
  have m0 : Mom η w0 ops none (Array.replicate ops.size false) [] s f [] μ a { w with drawn := w.drawn + 1 } ops.size :=
    ⟨by simp, Nat.le_add_right _ _, .nil, (fun y hy => by cases hy), hdrew, ha, (fun y hy => by cases hy)⟩
  refine wp_region_any hb.1 (wpAny_of_G (S := Sp ops []) _ _ _ _ ?_)
  split at hr
  · split at hr
    · rename_i L pend s1 f1 hp
      obtain ⟨he, hr⟩ := bif_some hr
      cases hr
      have he : Region.ready .any ops L = [] := by simpa using he
      exact phaseA (kx := none) (x := none) hfx hg hc hb.2 hQ rfl (fun μ' a' w' pc' fuel' hle _ hm => wpAnyG_end he ⟨rfl, μ', Mu.le_trans hμ hle, hm.r, hm.ar⟩ _) _ _ _ _ _ _ _ _ _ _ (Mu.le_refl _) trivial m0 hp
    · cases hr
  · rename_i k hfc
    split at hr
    · rename_i k2 r L pend s1 f1 hp
      obtain ⟨hck, hr⟩ := bif_some hr
      simp only [Bool.and_eq_true, Bool.not_eq_true'] at hck
      obtain ⟨⟨⟨⟨c1, c2⟩, c3⟩, c4⟩, c5⟩ := hck
      split at hr
      · rename_i ok hok
        split at hr
        · rename_i ho hao
          split at hr
          · rename_i t f2 ht hf2
            split at hr
            · rename_i L2 pend2 s3 f3 hp2
              obtain ⟨he, hr⟩ := bif_some hr
              cases hr
              have he : Region.ready .any ops L2 = [] := by simpa using he
              obtain ⟨_, O, room, hrun, hadopt, hval⟩ := allocO_run hao
              have c4' : ∀ j ∈ Region.ready .any ops L, j = k := fun j hj => by
                rw [List.all_eq_true] at c4
                exact (beq_iff _ _).1 (c4 j hj)
              refine phaseB hfx hg hc hb.2 hQ c1 hok hao hrun (fun w1 b hb1 hO hwr μ' a' w' pc' fuel' hle hkx hm => ?_) ⟨by simpa using c3, c4'⟩ _ _ _ _ _ _ _ _ _ _ (Mu.le_refl _) c5 m0 hp
              have hR := hm.r.adopt hwr ho O room hO ht (hadopt _ _)
              have hlep : μ'.le (μ'.put s1.next ⟨b, 0, room, undef⟩) := Mu.put_le (hm.r.fresh _ (Nat.le_refl _))
              have hA := put_sound (hm.ar.mono hlep) (hval η _ s1.next b (Mu.put_same _ _ _)) hf2
              exact phaseA (kx := none) (x := none) (μ0 := μ) hfx hg hc hb.2 hQ rfl (fun μ'' a'' w'' pc'' fuel'' hle' _ hm' => wpAnyG_end he ⟨rfl, μ'', Mu.le_trans hμ hle', hm'.r, hm'.ar⟩ _) _ _ _ _ _ _ _ _ _ _
                (Mu.le_trans hle hlep) trivial ⟨by simpa using hm.size, hm.fuel, hm.pcr.mono hlep, hm.sp, hR, hA, hm.ex⟩ hp2
            · cases hr
          · cases hr
        · cases hr
      · cases hr
    · cases hr

end
end Go.Hx
