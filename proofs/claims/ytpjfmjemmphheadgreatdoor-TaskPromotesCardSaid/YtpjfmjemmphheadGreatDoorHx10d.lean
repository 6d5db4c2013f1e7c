/- The executor's control. -/
import Derived.Test.YtpjfmjemmphheadGreatDoorHx10c
namespace Go.Hx
open Go Go.RowKit

section
variable {η : Env} {w0 : Base} {μ : Mu} {s : St} {w : World} {P : Program} {fx : Facts} {f : HF} {a : Act}

/-! ### Code -/
def hloop (g : St → HF → Option (HX × St × HF)) : Nat → St → HF → Option (HX × St × HF)
  | 0, _, _ => none
  | n + 1, s, f => match g s f with
    | some (.normal, s', f') => hloop g n s' f'
    | r => r

def hcode (P : Program) (fx : Facts) (call : HCall) (lf : Nat) : Code → St → HF → Option (HX × St × HF)
  | .skip, s, f => some (.normal, s, f)
  | .label _, s, f => some (.normal, s, f)
  | .region _ ops true, s, f => match hdraw P fx call ops s f with
    | some (s', f') => some (.normal, s', f')
    | none => none
  | .region _ ops false, s, f => match hops P fx call ops.toList ops.toList s f with
    | some (s', f') => some (.normal, s', f')
    | none => none
  | .seq x y, s, f => match hcode P fx call lf x s f with
    | some (.normal, s', f') => hcode P fx call lf y s' f'
    | r => r
  | .cond c x y, s, f => match f.ev s c with
    | some (.bool true) => hcode P fx call lf x s f
    | some (.bool false) => hcode P fx call lf y s f
    | _ => none
  | .block id x, s, f => match hcode P fx call lf x s f with
    | some (.exit i, s', f') => bif Nat.beq i id then some (.normal, s', f') else some (.exit i, s', f')
    | r => r
  | .loop x, s, f => hloop (hcode P fx call lf x) lf s f
  | .exit id, s, f => some (.exit id, s, f)
  | .ret, s, f => some (.ret, s, f)
  | _, _, _ => none

theorem Post.le {x : HX} {s : St} {f : HF} {μ0 μ1 : Mu} (h : μ0.le μ1) {e : Exit} {a : Act} {w : World} (k : Post η w0 μ1 x s f e a w) : Post η w0 μ0 x s f e a w :=
  ⟨k.1, let ⟨μ', k1, k2, k3⟩ := k.2; ⟨μ', Mu.le_trans h k1, k2, k3⟩⟩

def CodeOK (P : Program) (η : Env) (c : Code) (g : St → HF → Option (HX × St × HF)) : Prop :=
  ∀ (w0 : Base) (μ : Mu) (s s' : St) (w : World) (f f' : HF) (a : Act) (x : HX), R η w0 μ s w → AR η μ f a → g s f = some (x, s', f') → c.wp P (Post η w0 μ x s' f') a w

theorem hloop_sound {c : Code} {g : St → HF → Option (HX × St × HF)} (hk : CodeOK P η c g) : ∀ (n : Nat) (μ : Mu) (s s' : St) (w : World) (f f' : HF) (a : Act) (x : HX),
    R η w0 μ s w → AR η μ f a → hloop g n s f = some (x, s', f') → Code.rounds P c (Post η w0 μ x s' f') n a w := by
  intro n
  induction n with
  | zero => intro μ s s' w f f' a x _ _ h; cases h
  | succ n ih =>
    intro μ s s' w f f' a x h ha hr
    simp only [hloop] at hr
    rw [rounds_succ]
    split at hr
    · rename_i s1 f1 h1
      refine wp_mono (hk w0 μ s s1 w f f1 a .normal h ha h1) fun e a' w' ⟨he, μ', k1, k2, k3⟩ => ?_
      cases he
      have := ih μ' s1 s' w' f1 f' a' x k2 k3 hr
      have mono : ∀ (n : Nat) (a : Act) (w : World), Code.rounds P c (Post η w0 μ' x s' f') n a w → Code.rounds P c (Post η w0 μ x s' f') n a w := by
        intro n
        induction n with
        | zero => intro a w h; exact h
        | succ n ihn =>
          intro a w h
          rw [rounds_succ] at h ⊢
          refine wp_mono h fun e a' w' hq => ?_
          cases e <;> first | exact ihn _ _ hq | exact Post.le k1 hq
      exact mono n a' w' this
    · rename_i hne
      refine wp_mono (hk w0 μ s s' w f f' a x h ha hr) fun e a' w' hq => ?_
      have he := hq.1
      cases x with
      | normal => exact absurd hr (hne s' f')
      | exit i => cases he; exact hq
      | ret => cases he; exact hq

theorem hcode_sound (hfx : FxOK P η fx) (hg : NoG P) {call : HCall} (hc : CallOK P η call) (lf : Nat) : ∀ c : Code, CodeOK P η c (hcode P fx call lf c) := by
  intro c
  induction c with
  | skip =>
    intro w0 μ s s' w f f' a x h ha hr
    cases hr
    exact wp_skip ⟨rfl, μ, Mu.le_refl _, h, ha⟩
  | label l =>
    intro w0 μ s s' w f f' a x h ha hr
    cases hr
    exact wp_label ⟨rfl, μ, Mu.le_refl _, h, ha⟩
  | region id ops draw =>
    intro w0 μ s s' w f f' a x h ha hr
    cases draw with
    | true =>
      simp only [hcode] at hr
      split at hr
      · rename_i s1 f1 h1
        cases hr
        exact hdraw_sound hfx hg hc (Mu.le_refl _) h ha h1
      · cases hr
    | false =>
      simp only [hcode] at hr
      split at hr
      · rename_i s1 f1 h1
        cases hr
        exact wp_region_list (hops_sound hfx hg hc _ μ _ _ _ _ _ _ (Mu.le_refl _) h ha h1)
      · cases hr
  | seq x y ihx ihy =>
    intro w0 μ s s' w f f' a e h ha hr
    simp only [hcode] at hr
    refine wp_seq ?_
    split at hr
    · rename_i s1 f1 h1
      refine wp_mono (ihx w0 μ s s1 w f f1 a .normal h ha h1) fun e1 a' w' ⟨he, μ', k1, k2, k3⟩ => ?_
      cases he
      exact wp_mono (ihy w0 μ' s1 s' w' f1 f' a' e k2 k3 hr) fun _ _ _ hq => Post.le k1 hq
    · rename_i hne
      refine wp_mono (ihx w0 μ s s' w f f' a e h ha hr) fun e1 a' w' hq => ?_
      have he := hq.1
      cases e with
      | normal => exact absurd hr (hne s' f')
      | exit i => cases he; exact hq
      | ret => cases he; exact hq
  | cond c x y ihx ihy =>
    intro w0 μ s s' w f f' a e h ha hr
    simp only [hcode] at hr
    split at hr
    · rename_i hcv
      have := ev_sound h ha _ _ hcv
      refine wp_cond_true ?_ (ihx w0 μ s s' w f f' a e h ha hr)
      generalize a.eval c = vc at this ⊢
      cases this
      rfl
    · rename_i hcv
      have := ev_sound h ha _ _ hcv
      refine wp_cond_false ?_ (ihy w0 μ s s' w f f' a e h ha hr)
      generalize a.eval c = vc at this ⊢
      cases this
      rfl
    · cases hr
  | block id x ihx =>
    intro w0 μ s s' w f f' a e h ha hr
    simp only [hcode] at hr
    refine wp_block ?_
    split at hr
    · rename_i i s1 f1 h1
      refine wp_mono (ihx w0 μ s s1 w f f1 a (.exit i) h ha h1) fun e1 a' w' hq => ?_
      obtain ⟨he, hq'⟩ := hq
      cases he
      simp only [Exit.inBlock, HX.ex]
      cases hb : Nat.beq i id with
      | true =>
        rw [hb] at hr
        cases hr
        rw [if_pos ((beq_iff _ _).1 hb)]
        exact ⟨rfl, hq'⟩
      | false =>
        rw [hb] at hr
        cases hr
        rw [if_neg (fun e => by rw [(beq_iff _ _).2 e] at hb; cases hb)]
        exact ⟨rfl, hq'⟩
    · rename_i hne
      refine wp_mono (ihx w0 μ s s' w f f' a e h ha hr) fun e1 a' w' hq => ?_
      have he := hq.1
      cases e with
      | normal => cases he; exact hq
      | exit i => exact absurd hr (hne i s' f')
      | ret => cases he; exact hq
  | loop x ihx =>
    intro w0 μ s s' w f f' a e h ha hr
    simp only [hcode] at hr
    exact wp_loop_rounds lf (hloop_sound ihx lf μ s s' w f f' a e h ha hr)
  | exit id =>
    intro w0 μ s s' w f f' a x h ha hr
    cases hr
    exact wp_exit ⟨rfl, μ, Mu.le_refl _, h, ha⟩
  | ret =>
    intro w0 μ s s' w f f' a x h ha hr
    cases hr
    exact wp_ret ⟨rfl, μ, Mu.le_refl _, h, ha⟩
  | _ => intro w0 μ s s' w f f' a x h ha hr; cases hr

end
end Go.Hx
