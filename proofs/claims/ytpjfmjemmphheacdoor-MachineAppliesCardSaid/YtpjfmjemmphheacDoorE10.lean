/- MachineApplies: the executor: recover, closed runs, package variables. Conditions: none. -/
import Derived.Test.YtpjfmjemmphheacDoorE9
import Derived.Recover
set_option linter.all false
set_option linter.unusedVariables false
set_option linter.unusedSimpArgs false
namespace Go.Hx
open Go Go.RowKit

section
variable {P : Program}

def wplS (P : Program) : List Code → (Exit → Act → List Frame → World → Prop) → Act → List Frame → World → Prop
  | [], Q, a, cs, w => Q .normal a cs w
  | c :: l, Q, a, cs, w => c.wpS P (Exit.thenS (wplS P l Q) Q) a cs w

theorem wpS_mono {c : Code} {Q Q' : Exit → Act → List Frame → World → Prop} {a : Act} {cs : List Frame} {w : World} (h : c.wpS P Q a cs w) (hq : ∀ e a cs w, Q e a cs w → Q' e a cs w) : c.wpS P Q' a cs w :=
  fun b k hb hr => let ⟨e, a', cs', w', q, r⟩ := h b k hb hr; ⟨e, a', cs', w', hq _ _ _ _ q, r⟩

theorem thenS_mono {N N' : Act → List Frame → World → Prop} {Q Q' : Exit → Act → List Frame → World → Prop} (hn : ∀ a cs w, N a cs w → N' a cs w) (hq : ∀ e a cs w, Q e a cs w → Q' e a cs w) : ∀ e a cs w, Exit.thenS N Q e a cs w → Exit.thenS N' Q' e a cs w := fun e a cs w h => by
  cases e with
  | normal => exact hn _ _ _ h
  | _ => exact hq _ _ _ _ h

theorem wplS_mono {Q Q' : Exit → Act → List Frame → World → Prop} (hq : ∀ e a cs w, Q e a cs w → Q' e a cs w) : ∀ (l : List Code) (a : Act) (cs : List Frame) (w : World), wplS P l Q a cs w → wplS P l Q' a cs w
  | [], _, _, _, h => hq _ _ _ _ h
  | _ :: l, _, _, _, h => wpS_mono h (thenS_mono (wplS_mono hq l) hq)

theorem wplS_append' {Q : Exit → Act → List Frame → World → Prop} (ds : List Code) : ∀ (l : List Code) (a : Act) (cs : List Frame) (w : World), wplS P (l ++ ds) Q a cs w → wplS P l (Exit.thenS (wplS P ds Q) Q) a cs w
  | [], _, _, _, h => h
  | _ :: l, _, _, _, h => wpS_mono h fun e a cs w he => by
      cases e with
      | normal => exact wplS_append' ds l a cs w he
      | _ => exact he

theorem wpS_of_flat : ∀ (c : Code) (Q : Exit → Act → List Frame → World → Prop) (a : Act) (cs : List Frame) (w : World), wplS P (flatC c) Q a cs w → c.wpS P Q a cs w := by
  intro c
  induction c with
  | seq x y ihx ihy =>
    intro Q a cs w h
    refine wpS_seq (ihx _ a cs w ?_)
    exact wplS_mono (thenS_mono (fun a cs w h => ihy Q a cs w h) (fun _ _ _ _ h => h)) _ _ _ _ (wplS_append' _ _ _ _ _ h)
  | _ =>
    intro Q a cs w h
    refine wpS_mono h fun e a cs w he => ?_
    cases e <;> exact he

theorem wplS_of_wpl {Q : Exit → Act → List Frame → World → Prop} {cs : List Frame} : ∀ (l : List Code) (a : Act) (w : World), wpl P l (fun e a w => Q e a cs w) a w → wplS P l Q a cs w
  | [], _, _, h => h
  | c :: l, a, w, h => by
    refine wpS_mono (wpS_of_wp (cs := cs) (Q := fun e a cs' w => cs' = cs ∧ Exit.then (wpl P l fun e a w => Q e a cs w) (fun e a w => Q e a cs w) e a w) (wp_mono h fun e a w he => ⟨rfl, he⟩)) ?_
    intro e a cs' w ⟨hc, he⟩
    subst hc
    cases e with
    | normal => exact wplS_of_wpl l a w he
    | _ => exact he

/-- The one operation 'recover'. -/
def recO (ops : Array Oper) : Option (Option Tmp) :=
  match ops.toList with
  | [o] => match o.op, o.guard with
    | .call c, none => match c.callee, c.args.toList with
      | .builtin .recover, [] => some o.dst
      | _, _ => none
    | _, _ => none
  | _ => none

theorem recO_run {ops : Array Oper} {d : Option Tmp} (h : recO ops = some d) : ∃ o, ops = #[o] ∧ o.dst = d ∧ o.guard = none ∧ ∀ (ρ : Operand → Value) (w : World), (execOp ρ o).run P w = .ok .recover w := by
  unfold recO at h
  split at h
  · rename_i o ho
    split at h
    · rename_i c hop hg
      split at h
      · rename_i hc hargs
        cases h
        refine ⟨o, by apply Array.ext'; simpa using ho, rfl, hg, fun ρ w => ?_⟩
        unfold execOp
        rw [hop]
        simp only [resolve, hc, Sem.run_bind, Sem.run_pure, Result.andThen_ok, invoke]
        rfl
      · cases h
    · cases h
  · cases h

def recDk (P : Program) (call : HCall) (lf : Nat) : DCall := fun g args s =>
  match P.funcs[g]? with
  | none => none
  | some fn => match fn.body, hArgs 0 args .lf with
    | some c, some t => match flatC c with
      | .region _ ops false :: rest => match recO ops with
        | some d => match (⟨t, args.length + (fn.ntmps - args.length), [], undef⟩ : HF).put d .nilIface with
          | some f => match hlist P call lf rest s f with
            | some (.normal, s', f') => bif f'.ds.isEmpty then (hRes P f' fn.results.toList s').map (·.2) else none
            | some (.ret, s', f') => bif f'.ds.isEmpty then (hRes P f' fn.results.toList s').map (·.2) else none
            | _ => none
          | none => none
        | none => none
      | _ => none
    | _, _ => none

theorem recDk_ok (hg : NoG P) {call : HCall} (hc : CallOK P call) (lf : Nat) : DOK P (recDk P call lf) := by
  intro s s' g args hr
  unfold recDk at hr
  split at hr
  · cases hr
  · rename_i fn hfn
    split at hr
    · rename_i c t hb ht
      split at hr
      · rename_i id ops rest hfl
        split at hr
        · rename_i d hd
          split at hr
          · rename_i f hf
            have main : ∀ (x : HX) (s1 : St) (f1 : HF) (r : List Value), (x = .normal ∨ x = .ret) → f1.ds = [] → hRes P f1 fn.results.toList s1 = some (r, s') → hlist P call lf rest s f = some (x, s1, f1) →
                s.sub s' ∧ (SOK s' → ∀ (w0 : Base) (μ : Mu) (w : World) (args' : List Value), R w0 μ s w → VRs μ args args' → CallsD P g ⟨args'⟩ .returning w fun e u' w' => ∃ v' μ', e = .returned v' ∧ u' = .returning ∧ μ.le μ' ∧ R w0 μ' s' w') := by
              intro x s1 f1 r hx hds hres hl
              have hlk := hRes_like _ _ _ _ hres
              refine ⟨St.sub_trans (hlist_sub hc lf rest _ _ _ _ _ hl) hlk.sub, fun ok w0 μ w args' h ha => ?_⟩
              obtain ⟨o, hops, hdst, hgd, hrun⟩ := recO_run (P := P) hd
              refine callsD_of_wpS hfn hb fun c₀ cs hc0 => wpS_of_flat c _ _ _ _ ?_
              rw [hfl]
              have har := put_sound (enter_ar ha ht fn.ntmps) .nifc hf
              show (Code.region id ops false).wpS P (Exit.thenS (wplS P rest _) _) _ _ w
              refine wpS_region ?_
              subst hops
              have e1 : List.range (#[o] : Array Oper).size = [0] := rfl
              have hrc : recoverD (c₀ :: cs) = none := by simp [recoverD, hc0]
              rw [e1]
              simp only [wpOpsS]
              rw [show (#[o] : Array Oper)[0]? = some o from rfl]
              simp only [show Region.wanted o = fun _ => true by funext y; unfold Region.wanted; rw [hgd], if_true, hrun, hrc]
              show wplS P rest _ _ _ w
              rw [hdst]
              refine wplS_of_wpl rest _ _ (wpl_mono ?_ _ _ _ (hlist_sound hg hc lf rest μ s s1 w f f1 _ x h har hl (SOK.of_sub hlk.sub ok)))
              intro e a1 w1 ⟨he, μ1, m1, m2, m3⟩
              have hdn : a1.defers = [] := by
                have := m3.ds
                rw [hds] at this
                generalize a1.defers = l at this
                cases this
                rfl
              obtain ⟨v, q1, q2⟩ := results_sound m2 m3 hres ok
              have hcc : ({ c₀ with mode := .returning } : Frame) = c₀ := by rw [← hc0]
              subst he
              rcases hx with rfl | rfl <;> exact ⟨hdn, .returning, by rw [hcc], v, q1, v, μ1, rfl, rfl, m1, m2.like hlk⟩
            split at hr
            · rename_i s1 f1 hl
              obtain ⟨hds, hr⟩ := bif_some hr
              simp only [Option.map_eq_some_iff] at hr
              obtain ⟨⟨r, s2⟩, hres, rfl⟩ := hr
              exact main .normal _ _ r (.inl rfl) (by simpa using hds) hres hl
            · rename_i s1 f1 hl
              obtain ⟨hds, hr⟩ := bif_some hr
              simp only [Option.map_eq_some_iff] at hr
              obtain ⟨⟨r, s2⟩, hres, rfl⟩ := hr
              exact main .ret _ _ r (.inr rfl) (by simpa using hds) hres hl
            · cases hr
          · cases hr
        · cases hr
      · cases hr
    · cases hr

/-! ### A closed run, wherever it is called -/
variable {w0 : Base} {μ ν : Mu} {s : St} {w : World}
/-- A state of some package variables, one of which can be read. -/
def globS (tb : List Value) (ng : Nat) : St := { mkSt [(0, .ro tb)] ng ng with opn := false }
theorem globS_get (tb : List Value) (ng : Nat) (i : Nat) (o : HObj) (h : (globS tb ng).h.get i = some o) : i = 0 ∧ o = .ro tb := by
  have h : (Tr.nd (some (HObj.ro tb)) .lf .lf).get i = some o := h
  rw [Tr.get_nd] at h
  by_cases hi : i = 0
  · rw [if_pos hi] at h; cases h; exact ⟨hi, rfl⟩
  · rw [if_neg hi] at h
    split at h <;> cases h
theorem glob_R (h : R w0 μ s w) {tb : List Value} {ng : Nat} (hi : s.h.get 0 = some (.ro tb)) (hc : tb.all (idf 0) = true) (hn : s.ng = ng) (h0 : 0 < ng) : R (Base.only w μ.fz) ⟨fun i => if i < ng then μ i else none, μ.fz⟩ (globS tb ng) w where
  below := Below.refl _ _
  fresh := fun i hi => by
    have hi : ng ≤ i := hi
    show (if i < ng then μ i else none) = none
    rw [if_neg (by omega)]
  obj := fun i o hi' hd => by
    obtain ⟨rfl, rfl⟩ := globS_get tb ng i o hi'
    obtain ⟨p, k1, ⟨cur, e, fr, k2, k3⟩, _⟩ := h.obj 0 _ hi (by simp)
    exact ⟨p, by show (if 0 < ng then μ 0 else none) = some p; rw [if_pos h0]; exact k1, ⟨cur, e, fr, k2, csr_fr hc k3 (fun _ _ h => h)⟩, fun g hg => hg.elim⟩
  dis := fun a b o o' p q hab ha hb => absurd ((globS_get tb ng a o ha).1.trans (globS_get tb ng b o' hb).1.symm) hab
  fz := h.fz
  fzd := fun b O i o p _ hi' => by
    obtain ⟨rfl, rfl⟩ := globS_get tb ng i o hi'
    exact fun _ hg => hg
  fzo := fun b O hb => .inl ⟨O, hb⟩
  gl := fun g hg => by
    have hg : g < ng := hg
    obtain ⟨p, p1, p2⟩ := h.gl g (by omega)
    exact ⟨p, by show (if g < ng then μ g else none) = some p; rw [if_pos hg]; exact p1, p2⟩

/-- A closed run, answered. -/
def runK (g : FuncId) (tb : List Value) (ng : Nat) (v : Value) : HCall := fun g' args s => match Nat.beq g' g, args, s.h.get 0 with
  | true, [], some (.ro tb') => bif Nat.beq s.ng ng && idq 1 v then (needP (tb' = tb) s).map fun s' => (v, s') else none
  | _, _, _ => none
theorem runK_ok {g : FuncId} {tb : List Value} {ng : Nat} {v : Value} {call : HCall} (hc : CallOK P call) {s1 : St} (hr : call g [] (globS tb ng) = some (v, s1)) (hok : s1.pc = []) (hp : 0 < ng) (htb : tb.all (idf 0) = true) : CallOK P (runK g tb ng v) := by
  intro s s' g' args v' h
  unfold runK at h
  split at h
  · rename_i tb' hg hi
    obtain rfl := (beq_iff _ _).1 hg
    obtain ⟨hb, h⟩ := bif_some h
    simp only [Bool.and_eq_true, beq_iff] at hb
    simp only [Option.map_eq_some_iff, Prod.mk.injEq] at h
    obtain ⟨s2, hn, rfl, rfl⟩ := h
    obtain ⟨k1, k2⟩ := needP_like hn
    refine ⟨k1.sub, fun ok w0 μ w args' hR hV => ?_⟩
    obtain rfl := k2 ok
    cases hV
    refine ((hc _ _ _ _ _ hr).2 (fun p hp => by rw [hok] at hp; cases hp) _ _ w [] (glob_R hR hi htb hb.1 hp) .nil).mono fun e w' ⟨u, ν, m1, m2, m3, m4⟩ => ?_
    obtain ⟨n1, n2⟩ := back_R hR m3 m2.fz
    exact ⟨u, _, m1, n1, n2.like k1, idq_vr (μ := ν) (ν := ⟨μ.pl, ν.fz⟩) (fun _ _ h => h) 1 _ _ hb.2 m4⟩
  · cases h
end
end Go.Hx

namespace Go.Hx
open Go Go.RowKit

def datC {H : Type} : Nat → DataW H → List Value
  | 0, _ => []
  | _ + 1, .lit (.int k n) => [.int k n]
  | _ + 1, .lit (.bool b) => [.bool b]
  | d + 1, .agg ps => ps.flatMap (datC d)
  | _ + 1, _ => []

/-- No slice in it. -/
def plainK (kd : List Kd) : Bool := kd.all fun | .s _ => false | _ => true

section
variable {H : Type} {enc : TypeId × Value → H} {P : Program} {W : World} {base : Nat} {sp : Nat → Bool} {held : Bool}

theorem kdFs_cells {D fuel : Nat} {cs : List Value} (ih : ∀ (t : TypeId) (cs : List Value) (x : DataW H × List MemPlace) (kd : List Kd), kdOf P D t = some kd → plainK kd = true → DataW.trod enc P W base sp held fuel t cs = some x → cs = datC D x.1) :
    ∀ (fs : List Field) (o : Nat) (l : List Kd) (r : List (DataW H × List MemPlace)), kdFs P (kdOf P D) o fs = some l → plainK l = true →
      fs.mapM (fun f => DataW.trod enc P W base sp held fuel f.type ((cs.drop f.offset).take (P.cellsOf f.type))) = some r → o + l.length ≤ cs.length →
      (cs.drop o).take l.length = (r.map (·.1)).flatMap (datC D) := by
  intro fs
  induction fs with
  | nil => intro o l r h _ hr _; cases h; simp at hr; subst hr; simp
  | cons f fs ihf =>
    intro o l r h hp hr ho
    simp only [kdFs] at h
    have h2 := bif_some h
    clear h
    obtain ⟨hof, h⟩ := h2
    rw [beq_iff] at hof
    subst hof
    split at h
    · rename_i lf hlf
      have h2 := bif_some h
      clear h
      obtain ⟨hc, h⟩ := h2
      rw [beq_iff] at hc
      simp only [Option.map_eq_some_iff] at h
      obtain ⟨l', hl', rfl⟩ := h
      simp only [plainK, List.all_append, Bool.and_eq_true] at hp
      simp only [List.mapM_cons, Option.bind_eq_bind, Option.bind_eq_some_iff] at hr
      obtain ⟨y, hy, r', hr', h⟩ := hr
      cases h
      simp only [List.length_append] at ho
      have k1 := ih f.type _ y lf hlf hp.1 hy
      have k2 := ihf _ l' r' hl' hp.2 hr' (by omega)
      rw [hc] at k1
      rw [List.length_append, List.take_add, List.drop_drop, k1, k2]
      simp
    · cases h

theorem rep_cells {z : Nat} {cs : List Value} {D : Nat} : ∀ (m o : Nat) (r : List (DataW H × List MemPlace)), r.length = m → (∀ i y, r[i]? = some y → (cs.drop (o + i * z)).take z = datC D y.1) → (cs.drop o).take (m * z) = (r.map (·.1)).flatMap (datC D) := by
  intro m
  induction m with
  | zero => intro o r hr _; have : r = [] := List.length_eq_zero_iff.1 hr; subst this; simp
  | succ m ih =>
    intro o r hr h
    cases r with
    | nil => simp at hr
    | cons y r =>
      have k1 := h 0 y rfl
      rw [Nat.zero_mul, Nat.add_zero] at k1
      have k2 := ih (o + z) r (by simpa using hr) (fun i x hx => by
        have := h (i + 1) x (by simpa using hx)
        rwa [show o + (i + 1) * z = o + z + i * z by rw [Nat.add_mul]; omega] at this)
      rw [show (m + 1) * z = z + m * z by rw [Nat.add_mul]; omega, List.take_add, List.drop_drop, k1, k2]
      simp

theorem trod_cells : ∀ (D fuel : Nat) (t : TypeId) (cs : List Value) (x : DataW H × List MemPlace) (kd : List Kd), kdOf P D t = some kd → plainK kd = true → DataW.trod enc P W base sp held fuel t cs = some x → cs = datC D x.1 := by
  intro D
  induction D with
  | zero => intro fuel t cs x kd h; cases h
  | succ D ih =>
    intro fuel t cs x kd hk hp ht
    cases fuel with
    | zero => simp [DataW.trod] at ht
    | succ fuel =>
    simp only [kdOf] at hk
    unfold DataW.trod at ht
    split at hk
    · rename_i hu
      cases hk
      simp only [hu] at ht
      split at ht <;> simp_all
      obtain ⟨rfl, _⟩ := ht
      rfl
    · rename_i hu
      cases hk
      simp only [hu] at ht
      split at ht <;> simp_all
      obtain ⟨⟨e1, _⟩, rfl⟩ := ht
      subst_vars
      rfl
    · rename_i e hu
      cases hk
      cases hp
    · rename_i fs hu
      split at hk
      · rename_i l hl
        have hk2 := bif_some hk
        clear hk
        obtain ⟨hc, hk⟩ := hk2
        rw [beq_iff] at hc
        cases hk
        simp only [hu] at ht
        split at ht
        · rename_i hlen
          simp only [Option.map_eq_some_iff] at ht
          obtain ⟨r, hr, rfl⟩ := ht
          have := kdFs_cells (ih fuel) fs.toList 0 kd r hl hp hr (by omega)
          rw [List.drop_zero, List.take_of_length_le (by omega)] at this
          exact this
        · cases ht
      · cases hk
    · rename_i n e hu
      split at hk
      · rename_i l hl
        have hk2 := bif_some hk
        clear hk
        obtain ⟨hc, hk⟩ := hk2
        simp only [Bool.and_eq_true, beq_iff] at hc
        obtain ⟨⟨hc1, hc2⟩, hc3⟩ := hc
        cases hk
        simp only [hu] at ht
        split at ht
        · rename_i hlen
          simp only [Option.map_eq_some_iff] at ht
          obtain ⟨r, hr, rfl⟩ := ht
          obtain ⟨hrl, hrg⟩ := mapM_get hr
          simp only [List.length_range] at hrl
          rw [hc1] at hrg
          by_cases hn : n = 0
          · subst hn
            have hr0 : r = [] := List.length_eq_zero_iff.1 hrl
            subst hr0
            have : cs = [] := List.length_eq_zero_iff.1 (by omega)
            subst this
            rfl
          have hpl : plainK l = true := by
            unfold plainK at hp ⊢
            rw [List.all_eq_true] at hp ⊢
            exact fun k hk => hp k (List.mem_flatten.2 ⟨l, by simp [hn], hk⟩)
          have := rep_cells (H := H) (z := l.length) (cs := cs) (D := D) n 0 r hrl (fun i y hy => by
            have hi := (List.getElem?_eq_some_iff.1 hy).1
            obtain ⟨y', hy1, hy2⟩ := hrg i i (by rw [List.getElem?_range (by omega)])
            rw [hy] at hy1
            cases hy1
            rw [Nat.zero_add]
            exact ih fuel e _ y l hl hpl hy2)
          rw [List.drop_zero, List.take_of_length_le (by omega)] at this
          exact this
        · cases ht
      · cases hk
    · cases hk

/-- What is laid for a variable: its cells. -/
theorem laid_cells {laid : List (String × DataW Unit)} {ps : List MemPlace} (h : DataW.LaidVars P W laid ps) {name : String} {dat : DataW Unit} (hm : (name, dat) ∈ laid) {g : Nat} {t : TypeId} (hg : P.globalNamed name = some g) (ht : (P.globals[g]?).map (·.type) = some t) {D : Nat} {kd : List Kd} (hk : kdOf P D t = some kd) (hp : plainK kd = true) :
    ∀ (j : Nat) (v : Value), (datC D dat)[j]? = some v → W.cell? ⟨g, j, none⟩ = some v := by
  induction laid generalizing ps with
  | nil => cases hm
  | cons x laid ih =>
    obtain ⟨n, d⟩ := x
    obtain ⟨g', t', cs, fuel, p, q, h1, h2, h3, h4, h5, _⟩ := h
    rcases List.mem_cons.1 hm with e | hm
    · cases e
      rw [hg] at h1
      cases h1
      rw [ht] at h2
      cases h2
      have hcs := trod_cells D fuel t cs.toList _ kd hk hp h4
      intro j v hj
      have hcs : cs.toList = datC D dat := hcs
      rw [← hcs] at hj
      unfold World.var? at h3
      rw [hg] at h3
      simp only [Option.bind_some] at h3
      split at h3
      · rename_i cs' e' fr hb
        cases h3
        simp only [World.cell?, hb]
        simpa using hj
      · cases h3
    · exact ih h5 hm


/-- The world at the beginning of a call: nothing but frozen memory, and the package variables, one of which is known. -/
def globPl (ng : Nat) : Nat → Option Place := fun i => if i < ng then some ⟨i, 0, 0, nobd⟩ else none
theorem start_glob {tb : List Value} {ng : Nat} (hc : ∀ (j : Nat) (v : Value), tb[j]? = some v → W.cell? ⟨0, j, none⟩ = some v) (hne : 0 < tb.length) (hi : ∀ v ∈ tb, ∃ k n, v = Value.int k n) (h0 : 0 < ng) :
    R (Base.of W) ⟨globPl ng, fzW W⟩ (mkSt [(0, .ro tb)] ng ng) W := by
  have one : ∀ (i : Nat) (o : HObj), (mkSt [(0, .ro tb)] ng ng).h.get i = some o → i = 0 ∧ o = .ro tb := fun i o h => by
    have h : (Tr.nd (some (HObj.ro tb)) .lf .lf).get i = some o := h
    rw [Tr.get_nd] at h
    by_cases hi : i = 0
    · rw [if_pos hi] at h; cases h; exact ⟨hi, rfl⟩
    · rw [if_neg hi] at h
      split at h <;> cases h
  have row : ∃ cur e fr, W.heap[0]? = some (.cells cur e fr) := by
    have := hc 0 tb[0] (List.getElem?_eq_getElem hne)
    unfold World.cell? at this
    split at this
    · rename_i c e fr hb
      exact ⟨c, e, fr, hb⟩
    · cases this
  obtain ⟨cur, e, fr, hrow⟩ := row
  refine ⟨Below.refl _ _, fun i hi => ?_, fun i o hio _ => ?_, fun i j o o' p q hij hio hjo => absurd ((one i o hio).1.trans (one j o' hjo).1.symm) hij, fun _ _ h => h, fun b O i o p _ hio _ hg => ?_, fun _ _ _ => trivial, fun g hg => ?_⟩
  · have hi : ng ≤ i := hi
    show (if i < ng then _ else none) = none
    rw [if_neg (by omega)]
  · obtain ⟨rfl, rfl⟩ := one i o hio
    refine ⟨⟨0, 0, 0, nobd⟩, by show (if 0 < ng then _ else none) = _; rw [if_pos h0], ⟨cur, e, fr, hrow, fun j v hj => ?_⟩, fun g hg => hg.elim⟩
    have := hc j v hj
    unfold World.cell? at this
    simp only [hrow] at this
    obtain ⟨k, n, rfl⟩ := hi v (List.mem_of_getElem? hj)
    exact ⟨_, by simpa using this, .int k n⟩
  · obtain ⟨rfl, rfl⟩ := one i o hio
    exact hg
  · have hg : g < ng := hg
    exact ⟨⟨g, 0, 0, nobd⟩, by show (if g < ng then _ else none) = _; rw [if_pos hg], rfl, rfl⟩
end
end Go.Hx
