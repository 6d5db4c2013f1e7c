/- A deferred function that begins with recover, no panic being under way. -/
import Derived.Test.YtpjfmjemmphheadGreatDoorHx13
import Derived.Recover
namespace Go.Hx
open Go Go.RowKit

section
variable {P : Program}

def wplS (P : Program) : List Code → (Exit → Act → List Frame → World → Prop) → Act → List Frame → World → Prop
  | [], Q, a, cs, w => Q .normal a cs w
  | c :: l, Q, a, cs, w => c.wpS P (Exit.thenS (wplS P l Q) Q) a cs w

theorem wpS_mono {c : Code} {Q Q' : Exit → Act → List Frame → World → Prop} {a : Act} {cs : List Frame} {w : World} (h : c.wpS P Q a cs w) (hq : ∀ e a cs w, Q e a cs w → Q' e a cs w) : c.wpS P Q' a cs w :=
  fun b k hb hr => let ⟨e, a', cs', w', q, r⟩ := h b k hb hr; ⟨e, a', cs', w', hq _ _ _ _ q, r⟩

theorem thenS_mono {N N' : Act → List Frame → World → Prop} {Q Q' : Exit → Act → List Frame → World → Prop} (hn : ∀ a cs w, N a cs w → N' a cs w) (hq : ∀ e a cs w, Q e a cs w → Q' e a cs w) : ∀ e a cs w, Exit.thenS N Q e a cs w → Exit.thenS N' Q' e a cs w := fun e a cs w h => by
  cases e with
  | normal => exact hn _ _ _ h
  | _ => exact hq _ _ _ _ h

theorem wplS_mono {Q Q' : Exit → Act → List Frame → World → Prop} (hq : ∀ e a cs w, Q e a cs w → Q' e a cs w) : ∀ (l : List Code) (a : Act) (cs : List Frame) (w : World), wplS P l Q a cs w → wplS P l Q' a cs w
  | [], _, _, _, h => hq _ _ _ _ h
  | _ :: l, _, _, _, h => wpS_mono h (thenS_mono (wplS_mono hq l) hq)

theorem wplS_append' {Q : Exit → Act → List Frame → World → Prop} (ds : List Code) : ∀ (l : List Code) (a : Act) (cs : List Frame) (w : World), wplS P (l ++ ds) Q a cs w → wplS P l (Exit.thenS (wplS P ds Q) Q) a cs w
  | [], _, _, _, h => h
  | _ :: l, _, _, _, h => wpS_mono h fun e a cs w he => by
      cases e with
      | normal => exact wplS_append' ds l a cs w he
      | _ => exact he

theorem wpS_of_flat : ∀ (c : Code) (Q : Exit → Act → List Frame → World → Prop) (a : Act) (cs : List Frame) (w : World), wplS P (flatC c) Q a cs w → c.wpS P Q a cs w := by
  intro c
  induction c with
  | seq x y ihx ihy =>
    intro Q a cs w h
    refine wpS_seq (ihx _ a cs w ?_)
    exact wplS_mono (thenS_mono (fun a cs w h => ihy Q a cs w h) (fun _ _ _ _ h => h)) _ _ _ _ (wplS_append' _ _ _ _ _ h)
  | _ =>
    intro Q a cs w h
    refine wpS_mono h fun e a cs w he => ?_
    cases e <;> exact he

theorem wplS_of_wpl {Q : Exit → Act → List Frame → World → Prop} {cs : List Frame} : ∀ (l : List Code) (a : Act) (w : World), wpl P l (fun e a w => Q e a cs w) a w → wplS P l Q a cs w
  | [], _, _, h => h
  | c :: l, a, w, h => by
    refine wpS_mono (wpS_of_wp (cs := cs) (Q := fun e a cs' w => cs' = cs ∧ Exit.then (wpl P l fun e a w => Q e a cs w) (fun e a w => Q e a cs w) e a w) (wp_mono h fun e a w he => ⟨rfl, he⟩)) ?_
    intro e a cs' w ⟨hc, he⟩
    subst hc
    cases e with
    | normal => exact wplS_of_wpl l a w he
    | _ => exact he

/-- The one operation 'recover'. -/
def recO (ops : Array Oper) : Option (Option Tmp) :=
  match ops.toList with
  | [o] => match o.op, o.guard with
    | .call c, none => match c.callee, c.args.toList with
      | .builtin .recover, [] => some o.dst
      | _, _ => none
    | _, _ => none
  | _ => none

theorem recO_run {ops : Array Oper} {d : Option Tmp} (h : recO ops = some d) : ∃ o, ops = #[o] ∧ o.dst = d ∧ o.guard = none ∧ ∀ (ρ : Operand → Value) (w : World), (execOp ρ o).run P w = .ok .recover w := by
  unfold recO at h
  split at h
  · rename_i o ho
    split at h
    · rename_i c hop hg
      split at h
      · rename_i hc hargs
        cases h
        refine ⟨o, by apply Array.ext'; simpa using ho, rfl, hg, fun ρ w => ?_⟩
        unfold execOp
        rw [hop]
        simp only [resolve, hc, Sem.run_bind, Sem.run_pure, Result.andThen_ok, invoke]
        rfl
      · cases h
    · cases h
  · cases h

def recDk (P : Program) (fx : Facts) (call : HCall) (lf : Nat) : DCall := fun g args s =>
  match P.funcs[g]? with
  | none => none
  | some fn => match fn.body, hArgs 0 args .lf with
    | some c, some t => match flatC c with
      | .region _ ops false :: rest => match recO ops with
        | some d => match (⟨t, args.length + (fn.ntmps - args.length), []⟩ : HF).put d .nilIface with
          | some f => match hlist P fx call lf rest s f with
            | some (.normal, s', f') => bif f'.ds.isEmpty then (match hRes P s' f' fn.results.toList with | some _ => some s' | none => none) else none
            | some (.ret, s', f') => bif f'.ds.isEmpty then (match hRes P s' f' fn.results.toList with | some _ => some s' | none => none) else none
            | _ => none
          | none => none
        | none => none
      | _ => none
    | _, _ => none

theorem recDk_ok {η : Env} {fx : Facts} (hfx : FxOK P η fx) (hg : NoG P) {call : HCall} (hc : CallOK P η call) (lf : Nat) : DOK P η (recDk P fx call lf) := by
  intro w0 μ s s' w g args args' h ha hr
  unfold recDk at hr
  split at hr
  · cases hr
  · rename_i fn hfn
    split at hr
    · rename_i c t hb ht
      split at hr
      · rename_i id ops rest hfl
        split at hr
        · rename_i d hd
          split at hr
          · rename_i f hf
            obtain ⟨o, hops, hdst, hgd, hrun⟩ := recO_run (P := P) hd
            refine callsD_of_wpS hfn hb fun c₀ cs hc0 => wpS_of_flat c _ _ _ _ ?_
            rw [hfl]
            have har := put_sound (enter_ar ha ht fn.ntmps) .nifc hf
            show (Code.region id ops false).wpS P (Exit.thenS (wplS P rest _) _) _ _ w
            refine wpS_region ?_
            subst hops
            have e1 : List.range (#[o] : Array Oper).size = [0] := rfl
            have hrc : recoverD (c₀ :: cs) = none := by simp [recoverD, hc0]
            rw [e1]
            simp only [wpOpsS]
            rw [show (#[o] : Array Oper)[0]? = some o from rfl]
            simp only [show Region.wanted o = fun _ => true by funext y; unfold Region.wanted; rw [hgd], if_true, hrun, hrc]
            show wplS P rest _ _ _ w
            rw [hdst]
            have fin : ∀ (x : HX) (s1 : St) (f1 : HF) (r : List Value), (x = .normal ∨ x = .ret) → f1.ds = [] → hRes P s1 f1 fn.results.toList = some r → hlist P fx call lf rest s f = some (x, s1, f1) → s1 = s' →
                wplS P rest (bodyPostS P fn c₀ cs fun e u' w' => ∃ v' μ', e = .returned v' ∧ u' = .returning ∧ μ.le μ' ∧ R η w0 μ' s' w') (Act.put { tmps := (⟨args'⟩ : Array Value) ++ Array.replicate (fn.ntmps - (⟨args'⟩ : Array Value).size) undef, defers := [] } d .nilIface) (c₀ :: cs) w := by
              intro x s1 f1 r hx hds hres hl hs
              subst hs
              refine wplS_of_wpl rest _ _ (wpl_mono ?_ _ _ _ (hlist_sound hfx hg hc lf rest μ s s1 w f f1 _ x h har hl))
              intro e a1 w1 ⟨he, μ1, m1, m2, m3⟩
              have hdn : a1.defers = [] := by
                have := m3.ds
                rw [hds] at this
                generalize a1.defers = l at this
                cases this
                rfl
              obtain ⟨v, q1, q2⟩ := results_sound m2 m3 hres
              have hcc : ({ c₀ with mode := .returning } : Frame) = c₀ := by rw [← hc0]
              subst he
              rcases hx with rfl | rfl <;> exact ⟨hdn, .returning, by rw [hcc], v, q1, v, μ1, rfl, rfl, m1, m2⟩
            split at hr
            · rename_i s1 f1 hl
              obtain ⟨hds, hr⟩ := bif_some hr
              split at hr
              · rename_i r hres
                cases hr
                exact fin .normal _ _ r (.inl rfl) (by simpa using hds) hres hl rfl
              · cases hr
            · rename_i s1 f1 hl
              obtain ⟨hds, hr⟩ := bif_some hr
              split at hr
              · rename_i r hres
                cases hr
                exact fin .ret _ _ r (.inr rfl) (by simpa using hds) hres hl rfl
              · cases hr
            · cases hr
          · cases hr
        · cases hr
      · cases hr
    · cases hr

end
end Go.Hx
