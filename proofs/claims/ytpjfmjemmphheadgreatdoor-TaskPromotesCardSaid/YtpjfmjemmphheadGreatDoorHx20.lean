/- Contracts on unknown slices of objects: copies whose fields are copied, too. -/
import Derived.Test.YtpjfmjemmphheadGreatDoorHx19
namespace Go.Hx
open Go Go.RowKit

/-- A copy: the same list in memory of its own. -/
def CloneC (P : Program) (g : FuncId) (e : TypeId) (z bytes : Nat) : Prop :=
  ∀ (w : World) (v : Value) (B : Nat → Prop) (n : Nat) (l : List Value), SlF B w z n l v → n * bytes ≤ 140737488355328 → n ≤ maxLen →
    Calls P g ⟨[v]⟩ w fun e1 w' => ∃ v', e1 = .returned v' ∧ v'.oneCell' = true ∧ Below w.heap.size w w' ∧ RowF e (fun g => w.heap.size ≤ g ∧ g < w'.heap.size) w' z n l v'

def elTy (P : Program) (t : TypeId) (e z bytes : Nat) : Bool :=
  match P.underlying t with
  | some (.slice e') => Nat.beq e e' && (match P.info? e' with
    | some f => Nat.beq f.size z && Nat.beq f.bytes bytes && (match f.zero with | some z0 => Nat.beq z0.cells.size f.size | none => false)
    | none => false)
  | _ => false
theorem elTy_spec {P : Program} {t : TypeId} {e z bytes : Nat} (h : elTy P t e z bytes = true) : ∃ f z0, P.underlying t = some (.slice e) ∧ P.info? e = some f ∧ f.zero = some z0 ∧ z0.cells.size = f.size ∧ f.size = z ∧ f.bytes = bytes := by
  unfold elTy at h
  split at h
  · rename_i e' he
    simp only [Bool.and_eq_true, beq_iff] at h
    obtain ⟨rfl, h⟩ := h
    split at h
    · rename_i f hf
      simp only [Bool.and_eq_true, beq_iff] at h
      obtain ⟨⟨h1, h2⟩, h3⟩ := h
      split at h3
      · rename_i z0 hz
        exact ⟨f, z0, he, hf, hz, (beq_iff _ _).1 h3, h1, h2⟩
      · cases h3
    · cases h
  · cases h
theorem elTy_slTy {P : Program} {t : TypeId} {e z bytes : Nat} (h : elTy P t e z bytes = true) : slTy P t z = true := by
  obtain ⟨f, z0, h1, h2, h3, h4, h5, h6⟩ := elTy_spec h
  unfold slTy
  rw [h1]
  simp only [h2]
  exact (beq_iff _ _).2 h5

theorem cloneC {P : Program} (hg : NoG P) {g : FuncId} {t : TypeId} {e z bytes : Nat} (ht : elTy P t e z bytes = true) (h1 : cloneB P g t true = true) (h2 : cloneB P g t false = true) : CloneC P g e z bytes := fun w v B n l hs hb hn => by
  obtain ⟨f, z0, k1, k2, k3, k4, rfl, rfl⟩ := elTy_spec ht
  exact clone_con hg k1 k2 k3 k4 h1 h2 hs hb hn

/-- A contract of a copy, for the executor. -/
theorem con_clone {P : Program} {η : Env} {g : FuncId} {e z bytes k k' n : Nat} {l : List Value} (h : CloneC P g e z bytes) (hb : n * bytes ≤ 140737488355328) (hn : n ≤ maxLen)
    (hk : ∀ x m w v, η.psi k x m w v → ∃ B, SlF B w z n l v) (hk' : ∀ x m w v, RowF e (fun g => x ≤ g ∧ g < x + m) w z n l v → η.psi k' x m w v) : Con.ok P η (.clone g k k') :=
  fun w v b m _ hv =>
    let ⟨B, hs⟩ := hk _ _ _ _ hv
    (h w v B n l hs hb hn).mono fun e1 w' ⟨v', h1, h2, h3, h4⟩ => ⟨v', h1, h2, h3, hk' _ _ _ _ (h4.mono fun g hg => ⟨hg.1, by have := h3.size; have := hg.2; omega⟩)⟩

/-! ### Copies of objects -/
structure ObP where
  g : FuncId
  cons : List Con
  gv : FuncId
  t : TypeId
  e : TypeId
  so : Nat
  sl : Nat
  sn : Nat
  si : Nat

def obF1 (p : ObP) (n : Nat) : HF := mkF n [(p.so, .chan (some 1))]
def obF (p : ObP) (n : Nat) : HF := mkF n [(p.so, .chan (some 1)), (p.sl, .chan (some 1)), (p.sn, .int .i64 (tk 1)), (p.si, .int .i64 (tk 0))]
def obT1 (p : ObP) : Tab := { aps := [(p.t, 0, 1)] }
def obT2 : Tab := { lens := [(1, tk 0)] }
def obStep (p : ObP) : Tab := { fe := [⟨.lss, .i64, tk 0, tk 1, .bool true⟩, ⟨.add, .i64, tk 0, 1, .int .i64 (tk 2)⟩], ixs := [(1, tk 0, p.t, 2)] }
def obS (p : ObP) : St := stR [(2, .win [.int .i64 (tk 3), .chan (some 3)] p.e), (3, .tok 0)] 4 0
def is1 (i : Nat) : Bool := Nat.beq i 1

/-- The window holds the number as it was, and a new slice. -/
def winOk (e : TypeId) (s : St) : Bool :=
  match s.h.get 2 with
  | some (.win [.int .i64 a, .chan (some j)] e') => decide (a = tk 3) && Nat.beq e e' && (match s.h.get j with | some (.tok k) => Nat.beq k 1 | _ => false)
  | _ => false
theorem winOk_spec {e : TypeId} {s : St} (h : winOk e s = true) : ∃ j, s.h.get 2 = some (.win [.int .i64 (tk 3), .chan (some j)] e) ∧ s.h.get j = some (.tok 1) := by
  unfold winOk at h
  split at h
  · rename_i a j e' hw
    simp only [Bool.and_eq_true, decide_eq_true_eq, beq_iff] at h
    obtain ⟨⟨rfl, rfl⟩, h⟩ := h
    split at h
    · rename_i k hk
      rw [beq_iff] at h
      subst h
      exact ⟨j, hw, hk⟩
    · cases h
  · cases h

def obHead (p : ObP) (F : HF) : Option (HX × St × HF) → Bool
  | some (.normal, s, f) => frB [(tk 1, tk 1), (tk 2, tk 0)] [] is1 f F && winOk p.e s
  | _ => false
theorem obHead_spec {p : ObP} {F : HF} {r : Option (HX × St × HF)} (h : obHead p F r = true) : ∃ s f, r = some (.normal, s, f) ∧ frB [(tk 1, tk 1), (tk 2, tk 0)] [] is1 f F = true ∧ winOk p.e s = true := by
  unfold obHead at h
  split at h
  · simp only [Bool.and_eq_true] at h; exact ⟨_, _, rfl, h.1, h.2⟩
  · cases h

/-- The run ends the function; it hands back the slice. -/
def isRetC (P : Program) (fn : Func) : Option (HX × St × HF) → Bool
  | some (.normal, s, f) => f.ds.isEmpty && (match hRes P s f fn.results.toList with | some [.chan (some i)] => Nat.beq i 1 | _ => false)
  | some (.ret, s, f) => f.ds.isEmpty && (match hRes P s f fn.results.toList with | some [.chan (some i)] => Nat.beq i 1 | _ => false)
  | _ => false
theorem isRetC_spec {P : Program} {fn : Func} {r : Option (HX × St × HF)} (h : isRetC P fn r = true) : ∃ x s f, r = some (x, s, f) ∧ (x = .normal ∨ x = .ret) ∧ f.ds = [] ∧ hRes P s f fn.results.toList = some [.chan (some 1)] := by
  unfold isRetC at h
  split at h
  · simp only [Bool.and_eq_true, List.isEmpty_iff] at h
    obtain ⟨h1, h2⟩ := h
    split at h2
    · rename_i hc
      rw [beq_iff] at h2
      subst h2
      exact ⟨_, _, _, rfl, .inl rfl, h1, hc⟩
    · cases h2
  · simp only [Bool.and_eq_true, List.isEmpty_iff] at h
    obtain ⟨h1, h2⟩ := h
    split at h2
    · rename_i hc
      rw [beq_iff] at h2
      subst h2
      exact ⟨_, _, _, rfl, .inr rfl, h1, hc⟩
    · cases h2
  · cases h

/-- After the copy of the list itself: its slot holds row 1, an unknown slice. -/
def obCut (F : HF) : Option (HX × St × HF) → Bool
  | some (.normal, s, f) => frB [] [] is1 f F && (match s.h.get 1 with | some (.tok k) => Nat.beq k 1 | _ => false)
  | _ => false
theorem obCut_spec {F : HF} {r : Option (HX × St × HF)} (h : obCut F r = true) : ∃ s f, r = some (.normal, s, f) ∧ frB [] [] is1 f F = true ∧ s.h.get 1 = some (.tok 1) := by
  unfold obCut at h
  split at h
  · simp only [Bool.and_eq_true] at h
    obtain ⟨h1, h2⟩ := h
    split at h2
    · rename_i hk; rw [beq_iff] at h2; subst h2; exact ⟨_, _, rfl, h1, hk⟩
    · cases h2
  · cases h

def obChk (P : Program) (p : ObP) : Bool :=
  match parts P p.g 3 with
  | none => false
  | some E => match hArgs 0 [.chan (some 0)] .lf with
    | none => false
    | some a => obCut (obF1 p E.fn.ntmps) (hlist P ((obT1 p).fx P) (conK p.cons) 2 (E.pre.take 2) (stR [(0, .tok 0)] 1 0) ⟨a, 1 + (E.fn.ntmps - 1), []⟩) &&
      toHead [(tk 0, tk 1), (0, tk 0)] [] is1 (obF p E.fn.ntmps) (hlist P (obT2.fx P) noK 2 (E.pre.drop 2) (stR [] 4 0) (obF1 p E.fn.ntmps)) &&
      obHead p (obF p E.fn.ntmps) (hcode P ((obStep p).fx P) (hcall P ((obStep p).fx P) 2 (conK [.clone p.gv 0 1]) noD 2) 2 E.B (obS p) (obF p E.fn.ntmps)) &&
      outX P (eqLast.fx P) noK 2 E.id E.post (isRetC P E.fn) (hcode P (eqLast.fx P) noK 2 E.B (stR [] 4 0) (obF p E.fn.ntmps)) &&
      frB [(tk 0, tk 0), (tk 1, tk 1)] [] is1 (obF p E.fn.ntmps) (obF p E.fn.ntmps)

/-- Not too many objects, not too many fields. -/
def obSm (bo bv : Nat) (L : List Ob) : Prop := L.length * bo ≤ 140737488355328 ∧ L.length ≤ maxLen ∧ ∀ (k : Nat) (o : Ob), L[k]? = some o → o.2.1 * bv ≤ 140737488355328 ∧ o.2.1 ≤ maxLen

def oneOf1 (p : Place) : Mu := fun i => if i = 1 then some p else none
def obHd (pl : Place) (n k : Nat) : Env := envD [(k : Int), (n : Int)] (oneOf1 pl) (fun _ => False) (fun _ => (false, .flat 0 0 []))
def obM (pl : Place) (v1 : Value) (cells : List Value) (k : Nat) : Mu := fun i => match i with
  | 1 => some pl
  | 2 => some (elPl v1 2 k)
  | 3 => some (valPl (fvOf cells k))
  | _ => none
def obEnv (pl : Place) (w : World) (ob : Nat) (v1 : Value) (cells : List Value) (L : List Ob) (k : Nat) : Env :=
  envD [(k : Int), (L.length : Int), (k : Int) + 1, obI L k] (obM pl v1 cells k) (fun g => g < w.heap.size ∧ g ≠ ob) (fun j => if j = 0 then (false, obD L k) else (true, obD L k))

/-- The copy, its first k objects with fields of their own. -/
def OutF (W : World) (e : TypeId) (cells : List Value) (L : List Ob) (ob oo k : Nat) (w : World) : Prop :=
  ∃ cur, w.heap[ob]? = some (.cells cur e (0, 0)) ∧ oo + L.length * 2 ≤ cur.size ∧ ∀ (i : Nat) (o : Ob), L[i]? = some o → cur[oo + 2 * i]? = some (.int .i64 o.1) ∧
    ∃ fv, cur[oo + 2 * i + 1]? = some fv ∧ (i < k → SlF (fun g => W.heap.size ≤ g ∧ g < w.heap.size ∧ g ≠ ob) w 2 o.2.1 o.2.2 fv) ∧ (k ≤ i → fv = fvOf cells i)

section
variable {P : Program}

theorem obHd_0 {pl : Place} {n k : Nat} : dn (obHd pl n k) (tk 0) = k := by rw [obHd, dn_tk]; rfl
theorem obHd_1 {pl : Place} {n k : Nat} : dn (obHd pl n k) (tk 1) = n := by rw [obHd, dn_tk]; rfl

theorem obHd_start {pl : Place} {n k : Nat} {w : World} : R (obHd pl n k) (Base.of w) (obHd pl n k).m (stR [] 4 0) w :=
  R.start (Below.refl _ _) (fun i hi => by simp only [obHd, envD, oneOf1]; rw [if_neg (by omega)]) (fun g hg => hg.elim) (fun g hg => absurd hg (Nat.not_lt_zero _)) fun i o hio => nomem hio

theorem keep1 {η η' : Env} {β : Base} {μ : Mu} {s : St} {w : World} {pl : Place} (h : R η β μ s w) (h1 : η.m 1 = some pl) (h2 : η'.m 1 = some pl) : ∀ i p, is1 i = true → μ i = some p → η'.m i = some p := fun i p hi hp => by
  have hi : i = 1 := (beq_iff _ _).1 hi
  subst hi
  have := h.mle 1 pl h1
  rw [hp] at this
  cases this
  exact h2

/-- The end of a function that hands back an unknown slice. -/
theorem chan_end {η : Env} {β : Base} {w : World} {μ : Mu} {s : St} {f : HF} {a : Act} {fn : Func} {x : HX} {R' : Ending → World → Prop} {pl : Place} (hx : x = .normal ∨ x = .ret) (hd : f.ds = []) (hr : hRes P s f fn.results.toList = some [.chan (some 1)]) (h : R η β μ s w) (ha : AR η μ f a)
    (h1 : η.m 1 = some pl) (k : R' (.returned pl.val) w) : fnPost P fn R' x.ex a w :=
  fn_end hx h ha hd hr fun v hv => by
    have hv' : VR η μ (.chan (some 1)) v := hv
    rw [chan_vr hv' h.mle h1]
    exact k

theorem cur_of_cell {w : World} {b o : Nat} {cur : Array Value} {e : TypeId} {u : Value} (h : w.heap[b]? = some (.cells cur e (0, 0))) (hc : w.cell? ⟨b, o, none⟩ = some u) : cur[o]? = some u := by
  rw [cell_of_row w b o cur e (0, 0) h] at hc
  exact hc

section step
variable {p : ObP} {bo bv ev : Nat} {W : World} {B : Nat → Prop} {L : List Ob} {cells : List Value} {pl : Place} {ob oo k : Nat} {w : World} {o : Ob}

theorem obStep_ok (hto : elTy P p.t p.e 2 bo = true) {w' : World} {B' : Nat → Prop} (hsl : SlF B' w' 2 L.length cells pl.val) (hn : L.length ≤ maxLen) (ho : L[k]? = some o) : TabOK P (obEnv pl w ob pl.val cells L k) (obStep p) := by
  obtain ⟨f, z0, hu, hi, _, _, hfz, _⟩ := elTy_spec hto
  have hk : k < L.length := (List.getElem?_eq_some_iff.1 ho).1
  have e0 : dn (obEnv pl w ob pl.val cells L k) (tk 0) = k := by rw [obEnv, dn_tk]; rfl
  have e1 : dn (obEnv pl w ob pl.val cells L k) (tk 1) = L.length := by rw [obEnv, dn_tk]; rfl
  have e2 : dn (obEnv pl w ob pl.val cells L k) (tk 2) = (k : Int) + 1 := by rw [obEnv, dn_tk]; rfl
  have d1 : dn (obEnv pl w ob pl.val cells L k) 1 = 1 := dn_lt (by decide)
  refine ⟨fun x hx => ?_, fun _ _ _ h => nomem h, fun a b r h => nomem h, fun a b r h => nomem h, fun _ _ h => nomem h, fun i m u r h => ?_, fun _ _ h => nomem h, fun _ _ _ h => nomem h⟩
  · simp only [obStep, List.mem_cons, List.not_mem_nil, or_false] at hx
    rcases hx with rfl | rfl
    · exact fe_lss (by rw [e0, e1]; simp; exact hk)
    · refine fe_add ?_
      rw [e0, d1, e2]
      exact i64_ok (by omega) (by unfold maxLen at hn; omega)
  · simp only [obStep, List.mem_singleton, Prod.mk.injEq] at h
    obtain ⟨rfl, rfl, rfl, rfl⟩ := h
    exact tab_ixs hu hi (p := pl) (v := pl.val) rfl rfl hfz hsl (by decide) hk e0 rfl rfl

theorem obCon_ok (hv : CloneC P p.gv ev 2 bv) (hsm : obSm bo bv L) (ho : L[k]? = some o) : CallOK P (obEnv pl w ob pl.val cells L k) (conK [.clone p.gv 0 1]) := by
  refine conK_ok _ fun c hc => ?_
  simp only [List.mem_singleton] at hc
  subst hc
  obtain ⟨b1, b2⟩ := hsm.2.2 k o ho
  refine con_clone hv (n := o.2.1) (l := o.2.2) b1 b2 (fun x m w v h => ?_) (fun x m w v h => ?_)
  · simp only [obEnv, envD, if_true, obD, ho, Dat.ok] at h
    exact ⟨_, h⟩
  · simp only [obEnv, envD, Nat.one_ne_zero, if_false, obD, ho, Dat.ok]
    exact h.1.mono fun g hg => .inr hg

theorem obStart (hA : ObAt B W cells L) (ho : L[k]? = some o) (hW : Below W.heap.size W w) (hob : W.heap.size ≤ ob) (hb : ob < w.heap.size) (hadr : adr pl.val = (ob, oo)) {cur : Array Value} (hcur : w.heap[ob]? = some (.cells cur p.e (0, 0))) (hsz : oo + L.length * 2 ≤ cur.size)
    (hc0 : cur[oo + 2 * k]? = some (.int .i64 o.1)) (hc1 : cur[oo + 2 * k + 1]? = some (fvOf cells k)) :
    R (obEnv pl w ob pl.val cells L k) (Base.wind w ob (oo + k * 2) (oo + k * 2 + 2) hb) (obEnv pl w ob pl.val cells L k).m (obS p) w := by
  have hk : k < L.length := (List.getElem?_eq_some_iff.1 ho).1
  obtain ⟨f1, f2⟩ := hA.fv ho
  obtain ⟨aa, cc, hfv⟩ := f2.len_val
  refine R.startW Base.wind_refl (fun i hi => ?_) (fun g hg => hg) (fun g hg => absurd hg (Nat.not_lt_zero _)) (fun i x hio => ?_) (fun i j c e c' e' hi hj => ?_)
  · simp only [obEnv, envD]
    unfold obM
    split <;> first | omega | rfl
  · simp only [List.mem_cons, Prod.mk.injEq, List.not_mem_nil, or_false] at hio
    rcases hio with ⟨rfl, rfl⟩ | ⟨rfl, rfl⟩
    · refine ⟨elPl pl.val 2 k, rfl, .inr (.inr ⟨_, _, rfl, cur, ?_, ?_, ?_, ?_⟩)⟩
      · simpa [elPl, hadr] using hcur
      · simp only [elPl, hadr, List.length_cons, List.length_nil]; omega
      · intro j a hj
        simp only [elPl, hadr]
        match j, hj with
        | 0, hj =>
          simp at hj
          subst hj
          refine ⟨_, by rw [show oo + k * 2 + 0 = oo + 2 * k by omega]; exact hc0, ?_⟩
          have := VR.int (η := obEnv pl w ob pl.val cells L k) (μ := (obEnv pl w ob pl.val cells L k).m) .i64 (tk 3)
          have e3 : dn (obEnv pl w ob pl.val cells L k) (tk 3) = o.1 := by rw [obEnv, dn_tk]; simp [obI, ho]
          rwa [e3] at this
        | 1, hj =>
          simp at hj
          subst hj
          refine ⟨_, by rw [show oo + k * 2 + 1 = oo + 2 * k + 1 by omega]; exact hc1, ?_⟩
          exact VR.vtok (p := valPl (fvOf cells k)) rfl (by simp [valPl, hfv, Value.oneCell'])
        | j + 2, hj => simp at hj
      · simp [elPl, hadr, Base.wind]
    · refine ⟨_, rfl, .inr (.inl ⟨0, rfl, rfl, Nat.zero_le _, ?_⟩)⟩
      simp only [obEnv, envD, if_true, obD, ho, Dat.ok]
      have := (f2.lt.mono (B' := fun g => g < W.heap.size) fun g hg => hg.2).still (w' := w) fun g hg => hW.block g hg
      exact this.mono fun g hg => .inl ⟨trivial, Nat.lt_of_lt_of_le hg hW.size, by omega⟩
  · simp only [List.mem_cons, Prod.mk.injEq, List.not_mem_nil, or_false, reduceCtorEq, and_false] at hi hj
    rw [hi.1, hj.1]

theorem obNext (hA : ObAt B W cells L) (ho : L[k]? = some o) (hW : Below W.heap.size W w) (hob : W.heap.size ≤ ob) (hb : ob < w.heap.size) (hadr : adr pl.val = (ob, oo)) (hOut : OutF W p.e cells L ob oo k w) {μ' : Mu} {s' : St} {w1 : World}
    (hR : R (obEnv pl w ob pl.val cells L k) (Base.wind w ob (oo + k * 2) (oo + k * 2 + 2) hb) μ' s' w1) (hwin : winOk p.e s' = true) : Below W.heap.size W w1 ∧ OutF W p.e cells L ob oo (k + 1) w1 := by
  have hk : k < L.length := (List.getElem?_eq_some_iff.1 ho).1
  obtain ⟨q1, q2, q3, q4, q5, q6⟩ := hR.below
  obtain ⟨cur, hcur, hsz, hcs⟩ := hOut
  obtain ⟨cur1, r1, r2, r3⟩ := q6 cur p.e hcur
  obtain ⟨j, hj1, hj2⟩ := winOk_spec hwin
  obtain ⟨pw, curw, w1', w2, w3, w4, w5⟩ := hR.winc 2 _ _ hj1
  have hpw := hR.mle 2 (elPl pl.val 2 k) rfl
  rw [w1'] at hpw
  cases hpw
  simp only [elPl, hadr] at w2 w3 w4
  rw [r1] at w2
  cases w2
  obtain ⟨pj, j1, j2, j3, j4⟩ := hR.tok j 1 hj2
  refine ⟨⟨q1.trans hW.os, q2.trans hW.tape, q3.trans hW.output, Nat.le_trans hW.size q4, fun i hi => (q5 i (Nat.lt_of_lt_of_le hi hW.size) (by omega)).trans (hW.block i hi)⟩, cur1, r1, by rw [r2]; exact hsz, fun i x hx => ?_⟩
  by_cases hik : i = k
  · subst hik
    rw [ho] at hx
    cases hx
    obtain ⟨u0, a1, a2⟩ := w4 0 _ rfl
    obtain ⟨u1, a3, a4⟩ := w4 1 _ rfl
    have e3 : dn (obEnv pl w ob pl.val cells L i) (tk 3) = o.1 := by rw [obEnv, dn_tk]; simp [obI, ho]
    cases a2
    rw [e3] at a1
    refine ⟨by rw [show oo + 2 * i = oo + i * 2 + 0 by omega]; exact a1, u1, by rw [show oo + 2 * i + 1 = oo + i * 2 + 1 by omega]; exact a3, fun _ => ?_, fun h => absurd h (by omega)⟩
    cases a4 with
    | @vtok _ p' hp' _ =>
      rw [j1] at hp'
      cases hp'
      simp only [obEnv, envD, Nat.one_ne_zero, if_false, obD, ho, Dat.ok] at j4
      refine j4.mono fun g hg => ?_
      rcases hg with hg | hg
      · cases hg.1
      · have hg2 : w.heap.size ≤ g := j3 g hg.1 hg.2
        have h0 := hW.size
        exact ⟨by omega, by omega, by omega⟩
  · obtain ⟨c0, fv, c1, c2, c3⟩ := hcs i x hx
    refine ⟨(r3 _ (by omega)).trans c0, fv, (r3 _ (by omega)).trans c1, fun hi => ?_, fun hi => c3 (by omega)⟩
    refine ((c2 (by omega)).still fun g hg => q5 g hg.2.1 hg.2.2).mono fun g hg => ⟨hg.1, Nat.lt_of_lt_of_le hg.2.1 q4, hg.2.2⟩

end step

theorem objs_con (hg : NoG P) {p : ObP} {bo bv ev : Nat} (hto : elTy P p.t p.e 2 bo = true) (hcons : p.cons = [] ∨ ∃ gc, p.cons = [.clone gc 0 1] ∧ CloneC P gc p.e 2 bo) (hv : CloneC P p.gv ev 2 bv) (hchk : obChk P p = true)
    {W : World} {v : Value} {B : Nat → Prop} {L : List Ob} (hL : ObsF B W L v) (hsm : obSm bo bv L) :
    Calls P p.g ⟨[v]⟩ W fun e1 w' => ∃ v', e1 = .returned v' ∧ v'.oneCell' = true ∧ Below W.heap.size W w' ∧ ObsF (fun g => W.heap.size ≤ g ∧ g < w'.heap.size) w' L v' := by
  obtain ⟨cells, hs, hA⟩ := hL
  have hA : ObAt B W cells L := hA
  obtain ⟨a, c, hvv⟩ := hs.len_val
  have hone : v.oneCell' = true := by rw [hvv]; rfl
  unfold obChk at hchk
  split at hchk
  · cases hchk
  rename_i E hE
  split at hchk
  · cases hchk
  rename_i a0 ha0
  simp only [Bool.and_eq_true] at hchk
  obtain ⟨⟨⟨⟨k1, k2⟩, k3⟩, k4⟩, k5⟩ := hchk
  obtain ⟨cd, hf, hbd, hfl⟩ := parts_spec hE
  refine fn_run hf hbd ?_
  rw [hfl, ← List.take_append_drop 2 E.pre, List.append_assoc]
  obtain ⟨f, z0, hu, hi, hz, hzs, hfz, hfb⟩ := elTy_spec hto
  -- the copy of the list
  let η := envD [] (oneM (valPl v)) (fun g => g < W.heap.size) (fun k => if k = 0 then (false, .flat 2 L.length cells) else (true, .row p.e 2 L.length cells))
  have hR0 : R η (Base.of W) η.m (stR [(0, .tok 0)] 1 0) W := by
    refine R.start (Below.refl _ _) (fun i hi => ?_) (fun g hg => hg) (fun g hg => absurd hg (Nat.not_lt_zero _)) (fun i o hio => ?_)
    · simp only [η, envD, oneM]; rw [if_neg (by omega)]
    · simp only [List.mem_singleton, Prod.mk.injEq] at hio
      obtain ⟨rfl, rfl⟩ := hio
      refine ⟨_, rfl, .inr ⟨0, rfl, rfl, Nat.zero_le _, ?_⟩⟩
      simp only [η, envD, if_true, Dat.ok]
      exact hs.lt.mono fun g hg => .inl ⟨trivial, hg.2⟩
  have hT1 : TabOK P η (obT1 p) := by
    refine ⟨fun e h => nomem h, fun _ _ _ h => nomem h, fun _ _ _ h => nomem h, fun _ _ _ h => nomem h, fun _ _ h => nomem h, fun _ _ _ _ h => nomem h, fun _ _ h => nomem h, fun t' k k' h => ?_⟩
    simp only [obT1, List.mem_singleton, Prod.mk.injEq] at h
    obtain ⟨rfl, rfl, rfl⟩ := h
    refine ⟨p.e, f, z0, L.length, cells, hu, hi, hz, hzs, by rw [hfb]; exact hsm.1, hsm.2.1, fun b m w v h => ?_, fun b m w v h => ?_⟩
    · simp only [η, envD, if_true, Dat.ok] at h
      rw [hfz]
      exact ⟨_, h⟩
    · simp only [η, envD, Nat.one_ne_zero, if_false, Dat.ok]
      rw [hfz] at h
      exact h.mono fun g hg => .inr hg
  have hC1 : CallOK P η (conK p.cons) := by
    refine conK_ok _ fun c hc => ?_
    rcases hcons with h0 | ⟨gc, h0, hgc⟩
    · rw [h0] at hc; cases hc
    · rw [h0] at hc
      simp only [List.mem_singleton] at hc
      subst hc
      refine con_clone hgc (n := L.length) (l := cells) hsm.1 hsm.2.1 (fun x m w v h => ?_) (fun x m w v h => ?_)
      · simp only [η, envD, if_true, Dat.ok] at h
        exact ⟨_, h⟩
      · simp only [η, envD, Nat.one_ne_zero, if_false, Dat.ok]
        exact h.mono fun g hg => .inr hg
  have hA0 := enter_ar (η := η) (μ := η.m) (args := [.chan (some 0)]) (args' := [v]) (.cons (VR.vtok (p := valPl v) rfl hone) .nil) ha0 E.fn.ntmps
  obtain ⟨s1, f1, e1, hfr1, ht1⟩ := obCut_spec k1
  refine seg (tab_ok hT1) hg hC1 2 hR0 hA0 e1 fun μ1 a1 w1 hle1 hR1 hA1 => ?_
  obtain ⟨pl, p1, p2, p3, p4⟩ := hR1.tok 1 1 ht1
  simp only [η, envD, Nat.one_ne_zero, if_false, Dat.ok] at p4
  have hrow : RowF p.e (fun g => W.heap.size ≤ g ∧ g < w1.heap.size) w1 2 L.length cells pl.val := p4.mono fun g hg => by
    rcases hg with hg | hg
    · cases hg.1
    · exact ⟨p3 g hg.1 hg.2, by omega⟩
  have hW1 : Below W.heap.size W w1 := hR1.below
  obtain ⟨pa, pc, hpv⟩ := hrow.1.len_val
  have hpone : pl.val.oneCell' = true := by rw [hpv]; rfl
  -- to the loop
  have hA2 : AR (envD [(L.length : Int)] (oneOf1 pl) (fun _ => False) (fun _ => (false, .flat 0 0 []))) (oneOf1 pl) (obF1 p E.fn.ntmps) a1 :=
    frB_sound (fun a b hab => nomem hab) (fun a b hab => nomem hab) (fun i q hi hq => by
      have hi : i = 1 := (beq_iff _ _).1 hi
      subst hi
      rw [p1] at hq
      exact hq) hfr1 hA1
  have hR2 : R (envD [(L.length : Int)] (oneOf1 pl) (fun _ => False) (fun _ => (false, .flat 0 0 []))) (Base.of w1) (oneOf1 pl) (stR [] 4 0) w1 :=
    R.start (η := envD [(L.length : Int)] (oneOf1 pl) (fun _ => False) (fun _ => (false, .flat 0 0 []))) (Below.refl _ _) (fun i hi => by simp only [envD, oneOf1]; rw [if_neg (by omega)]) (fun g hg => hg.elim) (fun g hg => absurd hg (Nat.not_lt_zero _)) fun i o hio => nomem hio
  have hT2 : TabOK P (envD [(L.length : Int)] (oneOf1 pl) (fun _ => False) (fun _ => (false, .flat 0 0 []))) obT2 := by
    refine ⟨fun e h => nomem h, fun _ _ _ h => nomem h, fun _ _ _ h => nomem h, fun _ _ _ h => nomem h, fun i n h => ?_, fun _ _ _ _ h => nomem h, fun _ _ h => nomem h, fun _ _ _ h => nomem h⟩
    simp only [obT2, List.mem_singleton, Prod.mk.injEq] at h
    obtain ⟨rfl, rfl⟩ := h
    exact ⟨pl, pa, L.length, pc, rfl, hpv, by rw [dn_tk]; rfl⟩
  obtain ⟨s2, f2, e2, hfr2⟩ := toHead_spec k2
  show wpl P (E.pre.drop 2 ++ (Code.block E.id (.loop E.B) :: E.post)) _ a1 w1
  refine seg (tab_ok hT2) hg noK_ok 2 hR2 hA2 e2 fun μ2 a2 w2 hle2 hR2' hA2' => ?_
  show (Code.block E.id (.loop E.B)).wp P _ a2 w2
  refine wp_block ?_
  have hW2 : Below W.heap.size W w2 := hW1.trans (Below.mono hR2'.below hW1.size)
  have hrow2 : RowF p.e (fun g => W.heap.size ≤ g ∧ g < w1.heap.size) w2 2 L.length cells pl.val := hrow.still fun g hg => hR2'.below.block g hg.2
  -- where the copy lies
  obtain ⟨ob, oo, hadr, hob⟩ : ∃ ob oo, adr pl.val = (ob, oo) ∧ (0 < L.length → W.heap.size ≤ ob ∧ OutF W p.e cells L ob oo 0 w2) := by
    refine ⟨(adr pl.val).1, (adr pl.val).2, rfl, fun hpos => ?_⟩
    obtain ⟨b, o, cc, cur, g1, g2, g3, g4⟩ := hrow2.2 hpos
    have ga : adr pl.val = (b, o) := by rw [g1]; rfl
    rw [ga]
    refine ⟨g2.1, cur, g3, by simpa using g4, fun i x hx => ?_⟩
    obtain ⟨x1, _⟩ := hA i x hx
    obtain ⟨x2, _⟩ := hA.fv hx
    obtain ⟨_, _, _, hv0, _, hc0⟩ := hrow2.1
    have hcell : ∀ (j : Nat) (u : Value), cells[j]? = some u → cur[o + j]? = some u := fun j u hj => by
      obtain ⟨b', o', m1, _, m3⟩ := hc0 j u hj
      rw [g1] at hv0
      cases hv0
      cases m1
      exact cur_of_cell g3 m3
    exact ⟨hcell _ _ x1, _, hcell _ _ x2, fun h => absurd h (Nat.not_lt_zero _), fun _ => rfl⟩
  refine loop_to L.length (fun k a w => Below W.heap.size W w ∧ (0 < L.length → OutF W p.e cells L ob oo k w) ∧ AR (obHd pl L.length k) (obHd pl L.length k).m (obF p E.fn.ntmps) a) (fun k hk a w ⟨hW, hO, hAk⟩ => ?_) (fun a w ⟨hW, hO, hAk⟩ => ?_) 0 (Nat.zero_le _) a2 w2 ⟨hW2, fun h => (hob h).2, ?_⟩
  · -- a round
    have ho : L[k]? = some L[k] := List.getElem?_eq_getElem hk
    have hobk := (hob (by omega)).1
    obtain ⟨cur, hcur, hsz, hcs⟩ := hO (by omega)
    have hb := block_lt hcur
    obtain ⟨c0, fv, c1, _, c3⟩ := hcs k _ ho
    have c3 := c3 (Nat.le_refl _)
    subst c3
    have hRk := obStart (p := p) hA ho hW hobk hb hadr hcur hsz c0 c1
    have hAk' : AR (obEnv pl w ob pl.val cells L k) (obEnv pl w ob pl.val cells L k).m (obF p E.fn.ntmps) a := by
      refine frB_sound (fun x y hxy => ?_) (fun x y hxy => nomem hxy) (fun i q hi hq => ?_) k5 hAk
      · simp only [List.mem_cons, Prod.mk.injEq, List.not_mem_nil, or_false] at hxy
        rcases hxy with ⟨rfl, rfl⟩ | ⟨rfl, rfl⟩
        · rw [obHd_0, obEnv, dn_tk]; rfl
        · rw [obHd_1, obEnv, dn_tk]; rfl
      · have hi : i = 1 := (beq_iff _ _).1 hi
        subst hi
        exact hq
    obtain ⟨s', f', e', hfr, hwin⟩ := obHead_spec k3
    have htab := tab_ok (obStep_ok (w := w) (ob := ob) hto hrow.1 hsm.2.1 ho)
    refine seg1 htab hg (hcall_sound htab hg 2 (obCon_ok hv hsm ho) noD_ok 2) 2 hRk hAk' e' fun μ' a' w' hle hR' hA' => ?_
    obtain ⟨n1, n2⟩ := obNext hA ho hW hobk hb hadr ⟨cur, hcur, hsz, hcs⟩ hR' hwin
    refine ⟨n1, fun _ => n2, frB_sound (fun x y hxy => ?_) (fun x y hxy => nomem hxy) (keep1 hR' rfl rfl) hfr hA'⟩
    simp only [List.mem_cons, Prod.mk.injEq, List.not_mem_nil, or_false] at hxy
    rcases hxy with ⟨rfl, rfl⟩ | ⟨rfl, rfl⟩
    · rw [obHd_1, obEnv, dn_tk]; rfl
    · rw [obHd_0, obEnv, dn_tk]; simp
  · -- the end
    obtain ⟨s', f', e', hok⟩ := outX_spec k4
    have htab : TabOK P (obHd pl L.length L.length) eqLast := by
      refine ⟨fun x hx => ?_, fun _ _ _ h => nomem h, fun _ _ _ h => nomem h, fun _ _ _ h => nomem h, fun _ _ h => nomem h, fun _ _ _ _ h => nomem h, fun _ _ h => nomem h, fun _ _ _ h => nomem h⟩
      simp only [eqLast, List.mem_singleton] at hx
      subst hx
      exact fe_lss (by rw [obHd_0, obHd_1]; simp)
    refine seg1 (tab_ok htab) hg noK_ok 2 (obHd_start (w := w)) hAk e' fun μ' a' w' hle hR' hA' => ?_
    show Exit.inBlock E.id _ (.exit E.id) a' w'
    simp only [Exit.inBlock, if_true]
    obtain ⟨x, s3, f3, e3, hx, hd3, hres3⟩ := isRetC_spec hok
    refine wpl_mono (fun ex a3 w3 ⟨he, μ3, q1, q2, q3⟩ => ?_) _ _ _ (hlist_sound (tab_ok htab) hg noK_ok 2 E.post μ' s' s3 w' f' f3 a' x hR' hA' e3)
    subst he
    refine chan_end hx hd3 hres3 q2 q3 (pl := pl) rfl ⟨_, rfl, hpone, hW.trans (Below.mono q2.below hW.size), ?_⟩
    have hw3 : Below w.heap.size w w3 := q2.below
    by_cases hpos : 0 < L.length
    · obtain ⟨cur, hcur, hsz, hcs⟩ := hO hpos
      have hobk := (hob hpos).1
      have hb := block_lt hcur
      obtain ⟨b, o, cc, _, g1, _, _, _⟩ := hrow2.2 hpos
      have ga : adr pl.val = (b, o) := by rw [g1]; rfl
      rw [hadr] at ga
      cases ga
      have hcur3 : w3.heap[ob]? = some (.cells cur p.e (0, 0)) := (hw3.block ob hb).trans hcur
      have hget : ∀ j, j < L.length * 2 → ((cur.toList.drop oo).take (L.length * 2))[j]? = cur[oo + j]? := fun j hj => by
        rw [List.getElem?_take, if_pos hj, List.getElem?_drop]; simp
      refine ⟨(cur.toList.drop oo).take (L.length * 2), ⟨?_, _, _, g1, fun h => (by cases h), fun j u hj => ?_⟩, fun i x hx => ?_⟩
      · simp; omega
      · have hlt := (List.getElem?_eq_some_iff.1 hj).1
        have hlt2 : j < L.length * 2 := by simp at hlt; omega
        rw [hget j hlt2] at hj
        exact ⟨ob, oo, rfl, ⟨hobk, Nat.lt_of_lt_of_le hb hw3.size⟩, by rw [cell_of_row w3 ob (oo + j) cur p.e (0, 0) hcur3]; exact hj⟩
      · have hi := (List.getElem?_eq_some_iff.1 hx).1
        obtain ⟨c0, fv, c1, c2, _⟩ := hcs i x hx
        refine ⟨by rw [hget _ (by omega)]; exact c0, fv, by rw [hget _ (by omega)]; exact c1, ?_⟩
        exact ((c2 hi).still fun g hg => hw3.block g hg.2.1).mono fun g hg => ⟨hg.1, Nat.lt_of_lt_of_le hg.2.1 hw3.size⟩
    · have hL0 : L.length = 0 := by omega
      have hLn : L = [] := List.length_eq_zero_iff.1 hL0
      subst hLn
      obtain ⟨m1, m2⟩ := hrow.1
      have hc0 : cells = [] := by simpa using m1
      subst hc0
      refine ⟨[], ⟨by simp, ?_⟩, fun i x hx => by simp at hx⟩
      obtain ⟨aa, cc, m3, m4, _⟩ := m2
      exact ⟨aa, cc, m3, m4, fun j u hj => by simp at hj⟩
  · refine frB_sound (fun x y hxy => ?_) (fun x y hxy => nomem hxy) (fun i q hi hq => ?_) hfr2 hA2'
    · simp only [List.mem_cons, Prod.mk.injEq, List.not_mem_nil, or_false] at hxy
      rcases hxy with ⟨rfl, rfl⟩ | ⟨rfl, rfl⟩
      · rw [obHd_1, dn_tk]; rfl
      · rw [obHd_0, dn_lt (by decide)]; rfl
    · have hi : i = 1 := (beq_iff _ _).1 hi
      subst hi
      have := hR2'.mle 1 pl rfl
      rw [hq] at this
      cases this
      rfl

end
end Go.Hx
