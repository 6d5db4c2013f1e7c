/- The executor's calls. -/
import Derived.Test.YtpjfmjemmphheadGreatDoorHx10d
namespace Go.Hx
open Go Go.RowKit

def hArgs : Nat → List Value → Tr Value → Option (Tr Value)
  | _, [], t => some t
  | i, v :: l, t => match Tr.set 64 t i v with
    | some t' => hArgs (i + 1) l t'
    | none => none

theorem hArgs_get : ∀ (l : List Value) (i : Nat) (t t' : Tr Value), hArgs i l t = some t' → ∀ d, t'.get d = if i ≤ d ∧ d < i + l.length then l[d - i]? else t.get d := by
  intro l
  induction l with
  | nil =>
    intro i t t' h d
    simp only [hArgs, Option.some.injEq] at h
    subst h
    rw [if_neg (by intro h; simp at h; omega)]
  | cons v l ih =>
    intro i t t' h d
    simp only [hArgs] at h
    split at h
    · rename_i t1 h1
      rw [ih _ _ _ h d, Tr.get_set 64 t t1 i v h1]
      by_cases hd : d = i
      · subst hd
        rw [if_neg (by omega), if_pos rfl, if_pos (by simp)]
        simp
      · by_cases h2 : i + 1 ≤ d ∧ d < i + 1 + l.length
        · rw [if_pos h2, if_pos (by simp; omega)]
          have : d - i = (d - (i + 1)) + 1 := by omega
          rw [this, List.getElem?_cons_succ]
        · rw [if_neg h2, if_neg hd, if_neg (by simp; omega)]
    · cases h

def hRes (P : Program) (s : St) (f : HF) : List ResultVar → Option (List Value)
  | [] => some []
  | .tmp t :: l => match hRes P s f l with
    | some r => bif Nat.blt t f.n && !isHv (f.get t) then some (f.get t :: r) else none
    | none => none
  | .cell a t :: l => match hRes P s f l with
    | some r => bif Nat.blt a f.n then (match hLoad P s t (f.get a) with
      | some v => some (v :: r)
      | none => none) else none
    | none => none

def hTuple : List Value → Value
  | [v] => v
  | l => .tuple ⟨l⟩

section
variable {η : Env} {w0 : Base} {μ : Mu} {s : St} {w : World} {P : Program} {fx : Facts} {f : HF} {a : Act}

theorem enter_ar {args args' : List Value} (h : VRs η μ args args') {t : Tr Value} (ht : hArgs 0 args .lf = some t) (n : Nat) :
    AR η μ ⟨t, args.length + (n - args.length), []⟩ { tmps := (⟨args'⟩ : Array Value) ++ Array.replicate (n - (⟨args'⟩ : Array Value).size) undef, defers := [] } := by
  have hlen := h.length
  have hg := hArgs_get args 0 .lf t ht
  refine ⟨by simp [hlen], fun d hd _ => ?_, .nil⟩
  simp only [HF.get, hg]
  by_cases hda : d < args.length
  · rw [if_pos (by omega)]
    have h1 : args[d]? = some (args[d]) := List.getElem?_eq_getElem hda
    obtain ⟨v', k1, k2⟩ := h.get d _ h1
    simp only [Nat.sub_zero, h1, Option.getD_some]
    have : ((⟨args'⟩ : Array Value) ++ Array.replicate (n - (⟨args'⟩ : Array Value).size) undef).getD d undef = v' := by
      rw [Array.getD_eq_getD_getElem?, Array.getElem?_append_left (by simp; omega)]
      simp [k1]
    rw [this]
    exact k2
  · rw [if_neg (by omega)]
    have : ((⟨args'⟩ : Array Value) ++ Array.replicate (n - (⟨args'⟩ : Array Value).size) undef).getD d undef = undef := by
      rw [Array.getD_eq_getD_getElem?, Array.getElem?_append_right (by simp; omega), Array.getElem?_replicate]
      split <;> rfl
    rw [this]
    exact undef_vr

def resOne (tmps : Array Value) : ResultVar → Sem Value
  | .tmp t => pure (tmps.getD t undef)
  | .cell b t => do loadVar t (← asAddr (tmps.getD b undef))

theorem results_eq (fn : Func) (tmps : Array Value) : results fn tmps = (do let vs ← fn.results.mapM (resOne tmps); pure (if h : vs.size = 1 then vs[0] else .tuple vs)) := by
  unfold results
  refine congrArg (fun m => (do let vs ← Array.mapM m fn.results; pure (if h : vs.size = 1 then vs[0] else .tuple vs) : Sem Value)) ?_
  funext x
  cases x <;> rfl

theorem res_sound (h : R η w0 μ s w) (ha : AR η μ f a) : ∀ (l : List ResultVar) (r : List Value), hRes P s f l = some r →
    ∃ r', (l.mapM (resOne a.tmps)).run P w = .ok r' w ∧ VRs η μ r r' := by
  intro l
  induction l with
  | nil => intro r hr; cases hr; exact ⟨[], rfl, .nil⟩
  | cons x l ih =>
    intro r hr
    cases x with
    | tmp t =>
      simp only [hRes] at hr
      split at hr
      · rename_i r1 h1
        obtain ⟨ht, hr⟩ := bif_some hr
        simp only [Bool.and_eq_true, Bool.not_eq_true'] at ht
        cases hr
        obtain ⟨r', k1, k2⟩ := ih r1 h1
        refine ⟨a.tmps.getD t undef :: r', ?_, .cons (ha.vals t (blt_lt ht.1) ht.2) k2⟩
        simp only [List.mapM_cons, resOne, Sem.run_bind, Sem.run_pure, Result.andThen_ok, k1]
      · cases hr
    | cell b t =>
      simp only [hRes] at hr
      split at hr
      · rename_i r1 h1
        obtain ⟨hb, hr⟩ := bif_some hr
        split at hr
        · rename_i v hv
          cases hr
          obtain ⟨r', k1, k2⟩ := ih r1 h1
          have hnh : isHv (f.get b) = false := by obtain ⟨_, _, e⟩ := hLoad_ptr hv; rw [e]; rfl
          have hbv := ha.vals b (blt_lt hb) hnh
          obtain ⟨v', k3, k4⟩ := load_still h hv hbv
          have k5 := (k3 w fun _ _ => rfl).2
          refine ⟨v' :: r', ?_, .cons k4 k2⟩
          have hp : ∃ ad, a.tmps.getD b undef = .pointer (some ad) := by
            unfold hLoad at hv
            split at hv
            · rename_i i o hfb
              rw [hfb] at hbv
              generalize a.tmps.getD b undef = u at hbv ⊢
              cases hbv
              exact ⟨_, rfl⟩
            · cases hv
          obtain ⟨ad, hp⟩ := hp
          have k6 := k5 ad hp
          have k7 : (asAddr (a.tmps.getD b undef)).run P w = .ok ad w := by rw [hp]; rfl
          have k8 : (resOne a.tmps (.cell b t)).run P w = .ok v' w := by simp only [resOne, Sem.run_bind, k7, Result.andThen_ok, k6]
          simp only [List.mapM_cons, Sem.run_bind, k8, Sem.run_pure, Result.andThen_ok, k1]
        · cases hr
      · cases hr

theorem results_sound (h : R η w0 μ s w) (ha : AR η μ f a) {fn : Func} {r : List Value} (hr : hRes P s f fn.results.toList = some r) :
    ∃ v', (results fn a.tmps).run P w = .ok v' w ∧ VR η μ (hTuple r) v' := by
  obtain ⟨r', k1, k2⟩ := res_sound h ha _ _ hr
  rw [results_eq, Sem.run_bind, Array.mapM_eq_mapM_toList, map_eq_pure_bind, Sem.run_bind, k1]
  simp only [Result.andThen_ok, Sem.run_pure]
  refine ⟨_, rfl, ?_⟩
  cases k2 with
  | nil => exact .tuple .nil
  | cons h1 h2 => cases h2 with
    | nil => exact h1
    | cons h2 h3 => exact .tuple (.cons h1 (.cons h2 h3))

end

/-- What a deferred call does, no panic being under way. -/
abbrev DCall := FuncId → List Value → St → Option St

def DOK (P : Program) (η : Env) (dk : DCall) : Prop :=
  ∀ (w0 : Base) (μ : Mu) (s s' : St) (w : World) (g : FuncId) (args args' : List Value), R η w0 μ s w → VRs η μ args args' → dk g args s = some s' →
    CallsD P g ⟨args'⟩ .returning w fun e u' w' => ∃ v' μ', e = .returned v' ∧ u' = .returning ∧ μ.le μ' ∧ R η w0 μ' s' w'

def noD : DCall := fun _ _ _ => none
theorem noD_ok {P : Program} {η : Env} : DOK P η noD := fun _ _ _ _ _ _ _ _ _ _ h => by cases h

def hDefers (P : Program) (dk : DCall) : List HDef → St → Option St
  | [], s => some s
  | d :: l, s => match d.fn with
    | .func g => bif hasBody P g then (match dk g (d.args ++ d.cap) s with
      | some s' => hDefers P dk l s'
      | none => none) else none
    | _ => none

/-- The end of a function: what it hands back. -/
def hEnd (P : Program) (dk : DCall) (fn : Func) (s : St) (f : HF) : Option (Value × St) :=
  match hDefers P dk f.ds s with
  | some s' => match hRes P s' f fn.results.toList with
    | some r => some (hTuple r, s')
    | none => none
  | none => none

def hbody (P : Program) (fx : Facts) (lf : Nat) (dk : DCall) (call : HCall) (fn : Func) (args : List Value) (s : St) : Option (Value × St) :=
  match fn.body, hArgs 0 args .lf with
  | some c, some t => match hcode P fx call lf c s ⟨t, args.length + (fn.ntmps - args.length), []⟩ with
    | some (.normal, s', f') => hEnd P dk fn s' f'
    | some (.ret, s', f') => hEnd P dk fn s' f'
    | _ => none
  | _, _ => none

/-- (hk: calls that are answered by what is shown of them.) -/
def hcall (P : Program) (fx : Facts) (lf : Nat) (hk : HCall) (dk : DCall) : Nat → HCall
  | 0, _, _, _ => none
  | n + 1, g, args, s => match hk g args s with
    | some r => some r
    | none => match P.funcs[g]? with
      | some fn => hbody P fx lf dk (hcall P fx lf hk dk n) fn args s
      | none => none

def noK : HCall := fun _ _ _ => none
theorem noK_ok {P : Program} {η : Env} : CallOK P η noK := fun _ _ _ _ _ _ _ _ _ _ _ h => by cases h

section
variable {η : Env} {P : Program} {fx : Facts}

theorem defers_sound (hg : NoG P) {dk : DCall} (hd : DOK P η dk) {fn : Func} {tmps : Array Value} {R' : Ending → World → Prop} {w0 : Base} {μ0 : Mu} {s' : St}
    (hend : ∀ (μ : Mu) (w : World), μ0.le μ → R η w0 μ s' w → ∃ v, (results fn tmps).run P w = .ok v w ∧ R' (.returned v) w) :
    ∀ (ds : List HDef) (ds' : List Deferred) (μ : Mu) (s : St) (w : World), μ0.le μ → DsR η μ ds ds' → R η w0 μ s w → hDefers P dk ds s = some s' → Leaves P fn tmps R' ds' .returning w := by
  intro ds
  induction ds with
  | nil =>
    intro ds' μ s w hμ hds hR hr
    cases hds
    cases hr
    exact hend μ w hμ hR
  | cons d ds ih =>
    intro ds' μ s w hμ hds hR hr
    cases hds with
    | cons h1 h2 t =>
      rename_i fv cap args cap' args' l'
      simp only [hDefers] at hr
      split at hr
      · rename_i g
        obtain ⟨hb, hr⟩ := bif_some hr
        split at hr
        · rename_i s1 hs1
          have hinv : (invoke (.fn (.func g) ⟨cap'⟩) ⟨args'⟩).run P w = .ok (.enter g ⟨args' ++ cap'⟩) w := by
            simp only [invoke]
            have : (⟨args'⟩ : Array Value) ++ ⟨cap'⟩ = ⟨args' ++ cap'⟩ := by apply Array.ext'; simp
            rw [this]
            exact run_callFunc hg hb _ _
          refine leaves_cons (by simp) hinv ((hd w0 μ s s1 w g _ _ hR (h2.append h1) hs1).mono fun e u' w' ⟨v', μ', e1, e2, e3, e4⟩ => ?_)
          subst e1 e2
          exact ih _ μ' s1 w' (Mu.le_trans hμ e3) (t.mono e3) e4 hr
        · cases hr
      · cases hr

theorem hcall_sound (hfx : FxOK P η fx) (hg : NoG P) (lf : Nat) {hk : HCall} (hhk : CallOK P η hk) {dk : DCall} (hdk : DOK P η dk) : ∀ n, CallOK P η (hcall P fx lf hk dk n) := by
  intro n
  induction n with
  | zero => intro w0 μ s s' w g args args' v h ha hr; cases hr
  | succ n ih =>
    intro w0 μ s s' w g args args' v h ha hr
    simp only [hcall] at hr
    split at hr
    · rename_i r hkr
      cases hr
      exact hhk w0 μ s s' w g args args' v h ha hkr
    · split at hr
      · rename_i fn hfn
        unfold hbody at hr
        split at hr
        · rename_i c t hb ht
          have har := enter_ar ha ht fn.ntmps
          refine calls_of_wp_defers hfn hb ?_
          have fin : ∀ {s1 : St} {f1 : HF} {a1 : Act} {w1 : World} {μ1 : Mu}, hEnd P dk fn s1 f1 = some (v, s') → μ.le μ1 → R η w0 μ1 s1 w1 → AR η μ1 f1 a1 →
              Leaves P fn a1.tmps (fun e w' => ∃ v' μ', e = .returned v' ∧ μ.le μ' ∧ R η w0 μ' s' w' ∧ VR η μ' v v') a1.defers .returning w1 := by
            intro s1 f1 a1 w1 μ1 he hl hR hA
            unfold hEnd at he
            split at he
            · rename_i s2 hds
              split at he
              · rename_i r hres
                simp only [Option.some.injEq, Prod.mk.injEq] at he
                obtain ⟨rfl, rfl⟩ := he
                refine defers_sound hg hdk (μ0 := μ1) (s' := s2) (fun μ2 w2 hle hR2 => ?_) _ _ μ1 s1 w1 (Mu.le_refl _) hA.ds hR hds
                obtain ⟨u, k1, k2⟩ := results_sound hR2 (hA.mono hle) hres
                exact ⟨u, k1, u, μ2, rfl, Mu.le_trans hl hle, hR2, k2⟩
              · cases he
            · cases he
          split at hr
          · rename_i s1 f1 hc
            refine wp_mono (hcode_sound hfx hg ih lf c w0 μ _ _ w _ _ _ _ h har hc) fun e a1 w1 ⟨he, μ1, k1, k2, k3⟩ => ?_
            cases he
            exact fin hr k1 k2 k3
          · rename_i s1 f1 hc
            refine wp_mono (hcode_sound hfx hg ih lf c w0 μ _ _ w _ _ _ _ h har hc) fun e a1 w1 ⟨he, μ1, k1, k2, k3⟩ => ?_
            cases he
            exact fin hr k1 k2 k3
          · cases hr
        · cases hr
      · cases hr

end
end Go.Hx
