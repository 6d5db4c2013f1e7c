/- Contracts on unknown slices: copies, comparisons. -/
import Derived.Test.YtpjfmjemmphheadGreatDoorHx16
namespace Go.Hx
open Go Go.RowKit

section
variable {P : Program}

/-! ### Runs, and what follows -/
/-- The run ends the function; it hands back this truth value. -/
def isRet (P : Program) (fn : Func) (b : Bool) : Option (HX × St × HF) → Bool
  | some (.normal, s, f) => f.ds.isEmpty && (match hRes P s f fn.results.toList with | some [.bool c] => b == c | _ => false)
  | some (.ret, s, f) => f.ds.isEmpty && (match hRes P s f fn.results.toList with | some [.bool c] => b == c | _ => false)
  | _ => false

theorem isRet_spec {fn : Func} {b : Bool} {r : Option (HX × St × HF)} (h : isRet P fn b r = true) : ∃ x s f, r = some (x, s, f) ∧ (x = .normal ∨ x = .ret) ∧ f.ds = [] ∧ hRes P s f fn.results.toList = some [.bool b] := by
  unfold isRet at h
  split at h
  · rename_i s f
    simp only [Bool.and_eq_true, List.isEmpty_iff] at h
    obtain ⟨h1, h2⟩ := h
    split at h2
    · rename_i c hc
      simp only [beq_iff_eq] at h2
      subst h2
      exact ⟨_, _, _, rfl, .inl rfl, h1, hc⟩
    · cases h2
  · rename_i s f
    simp only [Bool.and_eq_true, List.isEmpty_iff] at h
    obtain ⟨h1, h2⟩ := h
    split at h2
    · rename_i c hc
      simp only [beq_iff_eq] at h2
      subst h2
      exact ⟨_, _, _, rfl, .inr rfl, h1, hc⟩
    · cases h2
  · cases h

def BoolIs (w : World) (b : Bool) (e : Ending) (w' : World) : Prop := e = .returned (.bool b) ∧ Below w.heap.size w w'

/-- The end of a function that hands back a truth value. -/
theorem bool_end {η : Env} {w1 w : World} {μ : Mu} {s : St} {f : HF} {a : Act} {fn : Func} {b : Bool} {x : HX} (hx : x = .normal ∨ x = .ret) (hd : f.ds = []) (hr : hRes P s f fn.results.toList = some [.bool b]) (h : R η (Base.of w1) μ s w) (ha : AR η μ f a) :
    fnPost P fn (BoolIs w1 b) x.ex a w :=
  fn_end hx h ha hd hr fun v hv => by
    have hv' : VR η μ (.bool b) v := hv
    cases hv'
    exact ⟨rfl, h.below⟩

/-- The run of pieces ends the function with a truth value. -/
theorem seg_ret {η : Env} {fx : Facts} {w1 w : World} {μ : Mu} {s : St} {f : HF} {a : Act} (hfx : FxOK P η fx) (hg : NoG P) {call : HCall} (hc : CallOK P η call) (lf : Nat) {cs : List Code} {fn : Func} {b : Bool}
    (h : R η (Base.of w1) μ s w) (ha : AR η μ f a) (hr : isRet P fn b (hlist P fx call lf cs s f) = true) : wpl P cs (fnPost P fn (BoolIs w1 b)) a w := by
  obtain ⟨x, s', f', e, hx, hd, hres⟩ := isRet_spec hr
  exact wpl_mono (fun e' a' w' ⟨he, μ', k1, k2, k3⟩ => by subst he; exact bool_end hx hd hres k2 k3) _ _ _ (hlist_sound hfx hg hc lf cs μ s s' w f f' a x h ha e)

theorem then_ret {N : Act → World → Prop} {Q : Exit → Act → World → Prop} {a : Act} {w : World} (h : Q .ret a w) : Exit.then N Q .ret a w := h

/-- The run of the loop's body comes back to the loop's head. -/
def toHead (pi : List (Int × Int)) (pb : List (Nat × Nat)) (keep : Nat → Bool) (F : HF) : Option (HX × St × HF) → Bool
  | some (.normal, _, f) => frB pi pb keep f F
  | _ => false
theorem toHead_spec {pi : List (Int × Int)} {pb : List (Nat × Nat)} {keep : Nat → Bool} {F : HF} {r : Option (HX × St × HF)} (h : toHead pi pb keep F r = true) : ∃ s f, r = some (.normal, s, f) ∧ frB pi pb keep f F = true := by
  unfold toHead at h
  split at h
  · exact ⟨_, _, rfl, h⟩
  · cases h

/-- The run of the loop's body leaves the function (its result a truth value). -/
def retX (P : Program) (fn : Func) (b : Bool) : Option (HX × St × HF) → Bool
  | some (.ret, s, f) => f.ds.isEmpty && (match hRes P s f fn.results.toList with | some [.bool c] => b == c | _ => false)
  | _ => false
theorem retX_spec {fn : Func} {b : Bool} {r : Option (HX × St × HF)} (h : retX P fn b r = true) : ∃ s f, r = some (.ret, s, f) ∧ f.ds = [] ∧ hRes P s f fn.results.toList = some [.bool b] := by
  unfold retX at h
  split at h
  · rename_i s f
    simp only [Bool.and_eq_true, List.isEmpty_iff] at h
    obtain ⟨h1, h2⟩ := h
    split at h2
    · rename_i c hc
      simp only [beq_iff_eq] at h2
      subst h2
      exact ⟨_, _, rfl, h1, hc⟩
    · cases h2
  · cases h

/-- The run of the loop's body leaves the loop; then the rest ends the function. -/
def outX (P : Program) (fx : Facts) (call : HCall) (lf : Nat) (id : Nat) (post : List Code) (ok : Option (HX × St × HF) → Bool) : Option (HX × St × HF) → Bool
  | some (.exit i, s, f) => Nat.beq i id && ok (hlist P fx call lf post s f)
  | _ => false
theorem outX_spec {fx : Facts} {call : HCall} {lf id : Nat} {post : List Code} {ok : Option (HX × St × HF) → Bool} {r : Option (HX × St × HF)} (h : outX P fx call lf id post ok r = true) : ∃ s f, r = some (.exit id, s, f) ∧ ok (hlist P fx call lf post s f) = true := by
  unfold outX at h
  split at h
  · rename_i i s f
    simp only [Bool.and_eq_true, beq_iff] at h
    obtain ⟨rfl, h⟩ := h
    exact ⟨_, _, rfl, h⟩
  · cases h

/-- A loop that only reads: the frame at its head is always this one, in other names. -/
theorem scan {β : Base} {B : Code} {Q : Exit → Act → World → Prop} (F : HF) (N : Nat) (η : Nat → Env)
    (step : ∀ k, k < N → ∀ a w, β.ok w → AR (η k) (η k).m F a → B.wp P (Exit.then (fun a' w' => β.ok w' ∧ AR (η (k + 1)) (η (k + 1)).m F a') Q) a w)
    (last : ∀ a w, β.ok w → AR (η N) (η N).m F a → B.wp P (Exit.then (fun _ _ => False) Q) a w) (a : Act) (w : World) (hw : β.ok w) (ha : AR (η 0) (η 0).m F a) : (Code.loop B).wp P Q a w :=
  loop_to N (fun k a w => β.ok w ∧ AR (η k) (η k).m F a) (fun k hk a w h => step k hk a w h.1 h.2) (fun a w h => last a w h.1 h.2) 0 (Nat.zero_le _) a w ⟨hw, ha⟩

section
variable {η η' : Env} {fx : Facts} {w1 w : World} {s : St} {f : HF} {a : Act}

theorem run_head (hfx : FxOK P η fx) (hg : NoG P) {call : HCall} (hc : CallOK P η call) {lf : Nat} {B : Code} {β : Base} (h : R η β η.m s w) (ha : AR η η.m f a) {pi : List (Int × Int)} {pb : List (Nat × Nat)} {keep : Nat → Bool} {F : HF}
    (hr : toHead pi pb keep F (hcode P fx call lf B s f) = true) (hi : ∀ a b, (a, b) ∈ pi → dn η a = dn η' b) (hb : ∀ a b, (a, b) ∈ pb → decide (η.i a = 1) = decide (η'.i b = 1))
    (hk : ∀ i, keep i = true → η.m i ≠ none ∧ η'.m i = η.m i) {Q : Exit → Act → World → Prop} : B.wp P (Exit.then (fun a' w' => β.ok w' ∧ AR η' η'.m F a') Q) a w := by
  obtain ⟨s', f', e, hfr⟩ := toHead_spec hr
  refine seg1 hfx hg hc lf h ha e fun μ' a' w' hle hR hA => ?_
  refine ⟨hR.below, frB_sound hi hb (fun i p hki hp => ?_) hfr hA⟩
  obtain ⟨k1, k2⟩ := hk i hki
  cases hm : η.m i with
  | none => exact absurd hm k1
  | some q =>
    have := hle _ _ hm
    rw [hp] at this
    cases this
    rw [k2, hm]

theorem run_ret (hfx : FxOK P η fx) (hg : NoG P) {call : HCall} (hc : CallOK P η call) {lf : Nat} {B : Code} {fn : Func} {b : Bool} {id : Nat} {post : List Code} (h : R η (Base.of w1) η.m s w) (ha : AR η η.m f a)
    (hr : retX P fn b (hcode P fx call lf B s f) = true) {N : Act → World → Prop} :
    B.wp P (Exit.then N (Exit.inBlock id (Exit.then (wpl P post (fnPost P fn (BoolIs w1 b))) (fnPost P fn (BoolIs w1 b))))) a w := by
  obtain ⟨s', f', e, hd, hres⟩ := retX_spec hr
  exact seg1 hfx hg hc lf h ha e fun μ' a' w' hle hR hA => bool_end (.inr rfl) hd hres hR hA

theorem run_out (hfx : FxOK P η fx) (hg : NoG P) {call : HCall} (hc : CallOK P η call) {lf : Nat} {B : Code} {fn : Func} {b : Bool} {id : Nat} {post : List Code} (h : R η (Base.of w1) η.m s w) (ha : AR η η.m f a)
    (hr : outX P fx call lf id post (isRet P fn b) (hcode P fx call lf B s f) = true) {N : Act → World → Prop} :
    B.wp P (Exit.then N (Exit.inBlock id (Exit.then (wpl P post (fnPost P fn (BoolIs w1 b))) (fnPost P fn (BoolIs w1 b))))) a w := by
  obtain ⟨s', f', e, hok⟩ := outX_spec hr
  refine seg1 hfx hg hc lf h ha e fun μ' a' w' hle hR hA => ?_
  show Exit.inBlock id _ (.exit id) a' w'
  simp only [Exit.inBlock, if_true]
  exact seg_ret hfx hg hc lf hR hA hok

end

theorem nomem {α : Type} {x : α} {p : Prop} (h : x ∈ ([] : List α)) : p := by cases h

/-! ### Copies -/
def cloneB (P : Program) (g : FuncId) (t : TypeId) (isnil : Bool) : Bool :=
  match hcall P (({ nils := [(0, isnil)], aps := [(t, 0, 1)] } : Tab).fx P) 4 noK noD 8 g [.chan (some 0)] (stR [(0, .tok 0)] 1 0) with
  | some (.chan (some j), s') => (match s'.h.get j with | some (.tok k) => Nat.beq k 1 | _ => false)
  | some (.slice none n c, _) => isnil && Nat.beq n 0 && Nat.beq c 0
  | _ => false

def oneM (p : Place) : Mu := fun i => if i = 0 then some p else none

theorem clone_con (hg : NoG P) {g : FuncId} {t e : TypeId} {f : TypeInfo} {z0 : Value} (ht : P.underlying t = some (.slice e)) (hi : P.info? e = some f) (hz : f.zero = some z0) (hzs : z0.cells.size = f.size)
    (hn1 : cloneB P g t true = true) (hn2 : cloneB P g t false = true) {w : World} {v : Value} {B : Nat → Prop} {n : Nat} {l : List Value} (hs : SlF B w f.size n l v) (hb : n * f.bytes ≤ 140737488355328) (hml : n ≤ maxLen) :
    Calls P g ⟨[v]⟩ w fun e1 w' => ∃ v', e1 = .returned v' ∧ v'.oneCell' = true ∧ Below w.heap.size w w' ∧ RowF e (fun g => w.heap.size ≤ g ∧ g < w'.heap.size) w' f.size n l v' := by
  obtain ⟨a, c, hv, han⟩ : ∃ a c, v = .slice a n c ∧ (a = none → n = 0 ∧ c = 0) := by obtain ⟨_, a, c, e, h, _⟩ := hs; exact ⟨a, c, e, h⟩
  have hone : v.oneCell' = true := by rw [hv]; rfl
  let η := envD [] (oneM ⟨0, 0, 0, v⟩) (fun g => g < w.heap.size) (fun k => if k = 0 then (false, .flat f.size n l) else (true, .row e f.size n l))
  have hR : R η (Base.of w) η.m (stR [(0, .tok 0)] 1 0) w := by
    refine R.start (Below.refl _ _) (fun i hi => ?_) (fun g hg => hg) (fun g hg => absurd hg (Nat.not_lt_zero _)) (fun i o hio => ?_)
    · simp only [η, envD, oneM]; rw [if_neg (by omega)]
    · simp only [List.mem_singleton, Prod.mk.injEq] at hio
      obtain ⟨rfl, rfl⟩ := hio
      refine ⟨_, rfl, .inr ⟨0, rfl, rfl, Nat.zero_le _, ?_⟩⟩
      simp only [η, envD, if_true, Dat.ok]
      exact hs.lt.mono fun g hg => .inl ⟨trivial, hg.2⟩
  have key : ∀ isnil : Bool, a.isNone = isnil → cloneB P g t isnil = true → Calls P g ⟨[v]⟩ w fun e1 w' => ∃ v', e1 = .returned v' ∧ v'.oneCell' = true ∧ Below w.heap.size w w' ∧ RowF e (fun g => w.heap.size ≤ g ∧ g < w'.heap.size) w' f.size n l v' := by
    intro isnil hin hrun
    have htab : TabOK P η { nils := [(0, isnil)], aps := [(t, 0, 1)] } := by
      refine ⟨fun e h => nomem h, fun _ _ _ h => nomem h, fun _ _ _ h => nomem h, fun _ _ _ h => nomem h, fun _ _ h => nomem h, fun _ _ _ _ h => nomem h, fun i b h => ?_, fun t' k k' h => ?_⟩
      · simp only [List.mem_singleton, Prod.mk.injEq] at h
        obtain ⟨rfl, rfl⟩ := h
        exact ⟨_, a, n, c, rfl, hv, hin⟩
      · simp only [List.mem_singleton, Prod.mk.injEq] at h
        obtain ⟨rfl, rfl, rfl⟩ := h
        refine ⟨e, f, z0, n, l, ht, hi, hz, hzs, hb, hml, fun b m w v h => ?_, fun b m w v h => ?_⟩
        · simp only [η, envD, if_true, Dat.ok] at h
          exact ⟨_, h⟩
        · simp only [η, envD, Nat.one_ne_zero, if_false, Dat.ok]
          exact h.mono fun g hg => .inr hg
    unfold cloneB at hrun
    have har : VRs η η.m [.chan (some 0)] [v] := .cons (VR.vtok (p := ⟨0, 0, 0, v⟩) rfl hone) .nil
    split at hrun
    · rename_i j s' hc
      split at hrun
      · rename_i k hj
        rw [beq_iff] at hrun
        subst hrun
        refine (hcall_sound (tab_ok htab) hg 4 noK_ok noD_ok 8 (Base.of w) η.m _ s' w g _ _ _ hR har hc).mono fun e w' ⟨v', μ', h1, h2, h3, h4⟩ => ?_
        obtain ⟨p, p1, p2, p3, p4⟩ := h3.tok j 1 hj
        cases h4 with
        | @vtok _ q hq ho =>
          rw [p1] at hq
          cases hq
          refine ⟨_, h1, ho, h3.below, ?_⟩
          simp only [η, envD, Nat.one_ne_zero, if_false, Dat.ok] at p4
          refine p4.mono fun x hx => ?_
          rcases hx with hx | hx
          · cases hx.1
          · exact ⟨p3 x hx.1 hx.2, by omega⟩
      · cases hrun
    · rename_i n0 c0 s' hc
      simp only [Bool.and_eq_true, beq_iff] at hrun
      obtain ⟨⟨rfl, rfl⟩, rfl⟩ := hrun
      have ha0 : a = none := by cases a with | none => rfl | some _ => cases hin
      obtain ⟨rfl, rfl⟩ := han ha0
      refine (hcall_sound (tab_ok htab) hg 4 noK_ok noD_ok 8 (Base.of w) η.m _ s' w g _ _ _ hR har hc).mono fun e w' ⟨v', μ', h1, h2, h3, h4⟩ => ?_
      cases h4
      refine ⟨_, h1, rfl, h3.below, ?_⟩
      have hl : l = [] := by have := hs.1; simpa using this
      subst hl
      exact ⟨⟨by simp, none, 0, rfl, fun _ => ⟨rfl, rfl⟩, fun j u hj => by simp at hj⟩, fun h => absurd h (Nat.lt_irrefl _)⟩
    · cases hrun
  cases ha : a.isNone with
  | true => exact key true ha hn1
  | false => exact key false ha hn2

end
end Go.Hx
