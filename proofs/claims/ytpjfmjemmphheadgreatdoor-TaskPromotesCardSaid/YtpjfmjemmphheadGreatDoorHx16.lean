/- Tables of facts about names, as the executor asks for them; calls that are answered by contracts. -/
import Derived.Test.YtpjfmjemmphheadGreatDoorHx15
namespace Go.Hx
open Go Go.RowKit

structure Tab where
  fe : List FE := []
  cv : List (IntKind × Int × Int) := []
  eqi : List (Int × Int × Bool) := []
  eqb : List (Nat × Nat × Bool) := []
  lens : List (Nat × Int) := []
  ixs : List (Nat × Int × TypeId × Nat) := []
  nils : List (Nat × Bool) := []
  aps : List (TypeId × Nat × Nat) := []

def lookIx (i : Nat) (n : Int) (t : TypeId) : List (Nat × Int × TypeId × Nat) → Option Nat
  | [] => none
  | (j, m, u, r) :: l => bif Nat.beq i j && decide (n = m) && Nat.beq t u then some r else lookIx i n t l
theorem lookIx_mem {i : Nat} {n : Int} {t : TypeId} {r : Nat} : ∀ {l}, lookIx i n t l = some r → (i, n, t, r) ∈ l := by
  intro l
  induction l with
  | nil => intro h; cases h
  | cons x l ih =>
    obtain ⟨j, m, u, q⟩ := x
    intro h
    simp only [lookIx] at h
    cases hc : (Nat.beq i j && decide (n = m) && Nat.beq t u) with
    | true =>
      rw [hc] at h
      simp only [Bool.and_eq_true, decide_eq_true_eq, beq_iff] at hc
      obtain ⟨⟨rfl, rfl⟩, rfl⟩ := hc
      cases h
      exact List.mem_cons_self ..
    | false => rw [hc] at h; exact List.mem_cons_of_mem _ (ih h)

def lookAp (t : TypeId) (k : Nat) : List (TypeId × Nat × Nat) → Option Nat
  | [] => none
  | (u, j, r) :: l => bif Nat.beq t u && Nat.beq k j then some r else lookAp t k l
theorem lookAp_mem {t : TypeId} {k r : Nat} : ∀ {l}, lookAp t k l = some r → (t, k, r) ∈ l := by
  intro l
  induction l with
  | nil => intro h; cases h
  | cons x l ih =>
    obtain ⟨u, j, q⟩ := x
    intro h
    simp only [lookAp] at h
    cases hc : (Nat.beq t u && Nat.beq k j) with
    | true =>
      rw [hc] at h
      simp only [Bool.and_eq_true, beq_iff] at hc
      obtain ⟨rfl, rfl⟩ := hc
      cases h
      exact List.mem_cons_self ..
    | false => rw [hc] at h; exact List.mem_cons_of_mem _ (ih h)

def lookL {β : Type} (i : Nat) : List (Nat × β) → Option β
  | [] => none
  | (j, x) :: l => bif Nat.beq i j then some x else lookL i l
theorem lookL_mem {β : Type} {i : Nat} {x : β} : ∀ {l : List (Nat × β)}, lookL i l = some x → (i, x) ∈ l := by
  intro l
  induction l with
  | nil => intro h; cases h
  | cons y l ih =>
    obtain ⟨j, y⟩ := y
    intro h
    simp only [lookL] at h
    cases hc : Nat.beq i j with
    | true => rw [hc] at h; rw [beq_iff] at hc; subst hc; cases h; exact List.mem_cons_self ..
    | false => rw [hc] at h; exact List.mem_cons_of_mem _ (ih h)

def lookI {β : Type} (a b : Int) : List (Int × Int × β) → Option β
  | [] => none
  | (c, d, x) :: l => bif decide (a = c) && decide (b = d) then some x else lookI a b l
theorem lookI_mem {β : Type} {a b : Int} {x : β} : ∀ {l : List (Int × Int × β)}, lookI a b l = some x → (a, b, x) ∈ l := by
  intro l
  induction l with
  | nil => intro h; cases h
  | cons y l ih =>
    obtain ⟨c, d, y⟩ := y
    intro h
    simp only [lookI] at h
    cases hc : (decide (a = c) && decide (b = d)) with
    | true => rw [hc] at h; simp only [Bool.and_eq_true, decide_eq_true_eq] at hc; obtain ⟨rfl, rfl⟩ := hc; cases h; exact List.mem_cons_self ..
    | false => rw [hc] at h; exact List.mem_cons_of_mem _ (ih h)

def lookN {β : Type} (a b : Nat) : List (Nat × Nat × β) → Option β
  | [] => none
  | (c, d, x) :: l => bif Nat.beq a c && Nat.beq b d then some x else lookN a b l
theorem lookN_mem {β : Type} {a b : Nat} {x : β} : ∀ {l : List (Nat × Nat × β)}, lookN a b l = some x → (a, b, x) ∈ l := by
  intro l
  induction l with
  | nil => intro h; cases h
  | cons y l ih =>
    obtain ⟨c, d, y⟩ := y
    intro h
    simp only [lookN] at h
    cases hc : (Nat.beq a c && Nat.beq b d) with
    | true => rw [hc] at h; simp only [Bool.and_eq_true, beq_iff] at hc; obtain ⟨rfl, rfl⟩ := hc; cases h; exact List.mem_cons_self ..
    | false => rw [hc] at h; exact List.mem_cons_of_mem _ (ih h)

def lookC (k : IntKind) (n : Int) : List (IntKind × Int × Int) → Option Int
  | [] => none
  | (j, m, r) :: l => bif decide (k = j) && decide (n = m) then some r else lookC k n l
theorem lookC_mem {k : IntKind} {n r : Int} : ∀ {l : List (IntKind × Int × Int)}, lookC k n l = some r → (k, n, r) ∈ l := by
  intro l
  induction l with
  | nil => intro h; cases h
  | cons y l ih =>
    obtain ⟨c, d, y⟩ := y
    intro h
    simp only [lookC] at h
    cases hc : (decide (k = c) && decide (n = d)) with
    | true => rw [hc] at h; simp only [Bool.and_eq_true, decide_eq_true_eq] at hc; obtain ⟨rfl, rfl⟩ := hc; cases h; exact List.mem_cons_self ..
    | false => rw [hc] at h; exact List.mem_cons_of_mem _ (ih h)

def isEmptyS : Value → Bool
  | .slice none n c => Nat.beq n 0 && Nat.beq c 0
  | .slice (some a) n c => a.spot.isNone && Nat.beq n 0 && Nat.beq c 0
  | _ => false

def tabPu (P : Program) (tb : Tab) (ev : Operand → Option Value) (op : Op) : Option Value :=
  match op with
  | .call c => match c.callee, c.argTypes.toList, evs ev c.args.toList with
    | .builtin .len, [t], some [.chan (some i)] => match P.underlying t with
      | some (.slice _) => (lookL i tb.lens).map fun n => .int .i64 n
      | _ => none
    | _, _, _ => none
  | .indexAddr t x i => match ev x, ev i with
    | some (.chan (some a)), some (.int _ n) => (lookIx a n t tb.ixs).map fun r => .pointer (some ⟨r, 0, none⟩)
    | _, _ => none
  | .binOp .eql t x y _ => match P.underlying t, ev x, ev y with
    | some (.slice _), some (.chan (some a)), some (.slice none n c) => bif Nat.beq n 0 && Nat.beq c 0 then (lookL a tb.nils).map fun b => .bool b else none
    | some .bool, some (.float .f64 a), some (.float .f64 b) => (lookN a b tb.eqb).map fun r => .bool r
    | _, _, _ => none
  | _ => none

def tabSt (tb : Tab) (s : St) (ev : Operand → Option Value) (op : Op) : Option (HN × St) :=
  match op with
  | .call c => match c.callee, c.argTypes.toList, evs ev c.args.toList with
    | .builtin .append, [t, u], some [d, .chan (some i)] => bif Nat.beq t u && isEmptyS d then
        match s.h.get i with
        | some (.tok k) => match lookAp t k tb.aps with
          | some k' => match Tr.set 64 s.h s.next (.tok k') with
            | some h => some (.val (.chan (some s.next)), { s with h := h, next := s.next + 1 })
            | none => none
          | none => none
        | _ => none
      else none
    | _, _, _ => none
  | _ => none

def Tab.fx (P : Program) (tb : Tab) : Facts :=
  ⟨fun op k x y => lookFE op k x y tb.fe, fun k n => lookC k n tb.cv, fun a b => lookI a b tb.eqi, fun a b => lookN a b tb.eqb, fun _ ev op => tabPu P tb ev op, fun s ev op => tabSt tb s ev op⟩

structure TabOK (P : Program) (η : Env) (tb : Tab) : Prop where
  fe : ∀ e ∈ tb.fe, e.ok η
  cv : ∀ k n m, (k, n, m) ∈ tb.cv → k.wrap (dn η n) = dn η m
  eqi : ∀ a b r, (a, b, r) ∈ tb.eqi → (dn η a == dn η b) = r
  eqb : ∀ a b r, (a, b, r) ∈ tb.eqb → (decide (η.i a = 1) == decide (η.i b = 1)) = r
  lens : ∀ i n, (i, n) ∈ tb.lens → ∃ p a L c, η.m i = some p ∧ p.val = .slice a L c ∧ (L : Int) = dn η n
  ixs : ∀ i n t r, (i, n, t, r) ∈ tb.ixs → ∃ p q b off L c e f, P.underlying t = some (.slice e) ∧ P.info? e = some f ∧ η.m i = some p ∧ p.val = .slice (some ⟨b, off, none⟩) L c ∧ η.m r = some q ∧ q.blk = b ∧
    0 ≤ dn η n ∧ dn η n < L ∧ q.base = off + (dn η n).toNat * f.size
  nils : ∀ i b, (i, b) ∈ tb.nils → ∃ p a L c, η.m i = some p ∧ p.val = .slice a L c ∧ a.isNone = b
  aps : ∀ t k k', (t, k, k') ∈ tb.aps → ∃ e f z0 n l, P.underlying t = some (.slice e) ∧ P.info? e = some f ∧ f.zero = some z0 ∧ z0.cells.size = f.size ∧ n * f.bytes ≤ 140737488355328 ∧ n ≤ maxLen ∧
    (∀ b m w v, η.psi k b m w v → ∃ B, SlF B w f.size n l v) ∧ (∀ b m w v, RowF e (fun g => b ≤ g ∧ g < b + m) w f.size n l v → η.psi k' b m w v)

section
variable {P : Program} {η : Env} {tb : Tab}

theorem chan_vr {μ : Mu} {i : Nat} {v' : Value} (h : VR η μ (.chan (some i)) v') (hm : η.m.le μ) {p : Place} (hp : η.m i = some p) : v' = p.val := by
  cases h with
  | vtok h' _ => rw [hm _ _ hp] at h'; cases h'; rfl

theorem eql_nil_run {t e : TypeId} (ht : P.underlying t = some (.slice e)) (xo yo : Operand) (a : Option Addr) (L c : Nat) (w : World) :
    (do eqGuard .eql t xo yo (.slice a L c) (.slice none 0 0); binOp .eql t (.slice a L c) (.slice none 0 0) : Sem Value).run P w = .ok (.bool a.isNone) w := by
  rw [Sem.run_bind, show (eqGuard .eql t xo yo (.slice a L c) (.slice none 0 0)).run P w = .ok () w from rfl, Result.andThen_ok]
  have he : ∀ d : Nat, (Op.equalIn (d + 1) t (.slice a L c) (.slice none 0 0)).run P w = .ok a.isNone w := fun d => by
    cases a <;> simp [Op.equalIn, run_underlying ht]
  have hb : binOp .eql t (.slice a L c) (.slice none 0 0) = (do pure (.bool (← Op.equal t (.slice a L c) (.slice none 0 0))) : Sem Value) := rfl
  rw [hb]
  simp [Op.equal, Op.maxDepth, he 9999]

theorem eql_bool_run {t : TypeId} (ht : P.underlying t = some .bool) (xo yo : Operand) (a b : Bool) (w : World) :
    (do eqGuard .eql t xo yo (.bool a) (.bool b); binOp .eql t (.bool a) (.bool b) : Sem Value).run P w = .ok (.bool (a == b)) w := by
  rw [Sem.run_bind, show (eqGuard .eql t xo yo (.bool a) (.bool b)).run P w = .ok () w from rfl, Result.andThen_ok]
  have he : ∀ d : Nat, (Op.equalIn (d + 1) t (.bool a) (.bool b)).run P w = .ok (a == b) w := fun d => by
    simp [Op.equalIn, run_underlying ht]
  have hb : binOp .eql t (.bool a) (.bool b) = (do pure (.bool (← Op.equal t (.bool a) (.bool b))) : Sem Value) := rfl
  rw [hb]
  simp [Op.equal, Op.maxDepth, he 9999]

theorem tabPu_sound (h : TabOK P η tb) {w0 : Base} {μ : Mu} {s : St} {w : World} {ev : Operand → Option Value} {ρ : Operand → Value} {o : Oper} {v : Value} (hR : R η w0 μ s w) (he : ∀ x v, ev x = some v → VR η μ v (ρ x)) (hv : tabPu P tb ev o.op = some v) :
    ∃ v', (∀ w', (execOp ρ o).run P w' = .ok (.value v') w') ∧ VR η μ v v' := by
  have hle := hR.mle
  unfold tabPu at hv
  unfold execOp
  split at hv
  · rename_i c hop
    rw [hop]
    split at hv
    · rename_i t i hc hts hargs
      split at hv
      · rename_i e hu
        simp only [Option.map_eq_some_iff] at hv
        obtain ⟨n, hn, rfl⟩ := hv
        obtain ⟨p, a, L, cc, k1, k2, k3⟩ := h.lens i n (lookL_mem hn)
        have hav := evs_sound he _ _ hargs
        obtain ⟨x', hx1, hx2⟩ : ∃ x', c.args.toList.map ρ = [x'] ∧ VR η μ (.chan (some i)) x' := by
          generalize c.args.toList.map ρ = l at hav ⊢
          cases hav with
          | cons h1 h2 => cases h2; exact ⟨_, rfl, h1⟩
        obtain rfl := chan_vr hx2 hle k1
        have hmap : c.args.map ρ = #[p.val] := by apply Array.ext'; simpa using hx1
        have hts' : c.argTypes = #[t] := by apply Array.ext'; simpa using hts
        have hvr := VR.int (η := η) (μ := μ) .i64 n
        rw [← k3] at hvr
        refine ⟨.int .i64 (L : Int), fun w' => ?_, hvr⟩
        have hl : (Builtin.len_ #[t] o.type #[p.val]).run P w' = .ok (.int .i64 (L : Int)) w' := by
          rw [k2]; simp [Builtin.len_, run_underlying hu, goInt]
        simp only [resolve, hc, Sem.run_bind, Sem.run_pure, Result.andThen_ok, invoke, hmap, hts', builtin, hl]
      · cases hv
    · cases hv
  · rename_i t x i hop
    rw [hop]
    split at hv
    · rename_i a kd n hx hi
      simp only [Option.map_eq_some_iff] at hv
      obtain ⟨r, hr, rfl⟩ := hv
      obtain ⟨p, q, b, off, L, c, e, f, k1, k2, k3, k4, k5, k6, k7, k8, k9⟩ := h.ixs a n t r (lookIx_mem hr)
      have hxv := chan_vr (he _ _ hx) hle k3
      have hiv := he _ _ hi
      dsimp only
      generalize ρ i = vi at hiv ⊢
      cases hiv
      have hvr := VR.ptr (η := η) (o := 0) (hle _ _ k5)
      rw [k6, Nat.add_zero, k9] at hvr
      refine ⟨_, fun w' => ?_, hvr⟩
      have hrun : (Instr.indexAt t (ρ x) (.int kd (dn η n))).run P w' = .ok (.pointer (some ⟨b, off + (dn η n).toNat * f.size, none⟩)) w' := by
        rw [hxv, k4]
        simp [Instr.indexAt, asIntOf, run_underlying k1, k7, k8, sizeOf, typeInfo, k2, add_plain']
      simp only [Sem.run_bind, hrun, Result.andThen_ok, Sem.run_pure]
    · cases hv
  · rename_i t x y yt hop
    rw [hop]
    split at hv
    · rename_i e a n c hu hx hy
      have hv2 := bif_some hv
      clear hv
      obtain ⟨hnc, hv⟩ := hv2
      simp only [Bool.and_eq_true, beq_iff] at hnc
      obtain ⟨rfl, rfl⟩ := hnc
      simp only [Option.map_eq_some_iff] at hv
      obtain ⟨bb, hb, rfl⟩ := hv
      obtain ⟨p, ad, L, cc, k1, k2, k3⟩ := h.nils a bb (lookL_mem hb)
      have hxv := chan_vr (he _ _ hx) hle k1
      have hyv := he _ _ hy
      dsimp only
      generalize ρ y = vy at hyv ⊢
      cases hyv
      refine ⟨.bool bb, fun w' => ?_, .bool bb⟩
      have hrun := eql_nil_run (P := P) hu x y ad L cc w'
      rw [← k2, ← hxv, k3] at hrun
      simp only [Sem.run_bind] at hrun
      simp only [Sem.run_bind]
      rw [hrun]
      rfl
    · rename_i a b hu hx hy
      simp only [Option.map_eq_some_iff] at hv
      obtain ⟨r, hr, rfl⟩ := hv
      have hxv := he _ _ hx
      have hyv := he _ _ hy
      dsimp only
      generalize ρ y = vy at hyv ⊢
      generalize ρ x = vx at hxv ⊢
      cases hxv
      cases hyv
      refine ⟨.bool r, fun w' => ?_, .bool r⟩
      have hrun := eql_bool_run (P := P) hu x y (decide (η.i a = 1)) (decide (η.i b = 1)) w'
      rw [h.eqb a b r (lookN_mem hr)] at hrun
      simp only [Sem.run_bind] at hrun
      simp only [Sem.run_bind]
      rw [hrun]
      rfl
    · cases hv
  · cases hv

theorem tabSt_sound (h : TabOK P η tb) {w0 : Base} {μ : Mu} {s : St} {w : World} {ev : Operand → Option Value} {ρ : Operand → Value} {o : Oper} {r : HN × St} (hR : R η w0 μ s w) (he : ∀ x v, ev x = some v → VR η μ v (ρ x)) (hv : tabSt tb s ev o.op = some r) :
    Sim η w0 μ w ((execOp ρ o).run P w) r := by
  unfold tabSt at hv
  unfold execOp
  split at hv
  · rename_i c hop
    rw [hop]
    split at hv
    · rename_i t u d i hc hts hargs
      have hv2 := bif_some hv
      clear hv
      obtain ⟨htu, hv⟩ := hv2
      simp only [Bool.and_eq_true, beq_iff] at htu
      obtain ⟨rfl, hemp⟩ := htu
      split at hv
      · rename_i k hk
        split at hv
        · rename_i k' hk'
          split at hv
          · rename_i tr htr
            simp only [Option.some.injEq] at hv
            subst hv
            obtain ⟨e, f, z0, n, l, m1, m2, m3, m4, m5, m6, m7, m8⟩ := h.aps t k k' (lookAp_mem hk')
            obtain ⟨p, p1, p2, p3, p4⟩ := hR.tok i k hk
            obtain ⟨B, hsl⟩ := m7 _ _ _ _ p4
            have hav := evs_sound he _ _ hargs
            obtain ⟨d', x', hx1, hd2, hx2⟩ : ∃ d' x', c.args.toList.map ρ = [d', x'] ∧ VR η μ d d' ∧ VR η μ (.chan (some i)) x' := by
              generalize c.args.toList.map ρ = ll at hav ⊢
              cases hav with
              | cons h1 h2 => cases h2 with | cons h2 h3 => cases h3; exact ⟨_, _, rfl, h1, h2⟩
            obtain rfl : x' = p.val := by
              cases hx2 with
              | vtok h' _ => rw [p1] at h'; cases h'; rfl
            have hd3 : d' = .slice none 0 0 ∨ ∃ b, d' = .slice (some b) 0 0 := by
              unfold isEmptyS at hemp
              split at hemp
              · simp only [Bool.and_eq_true, beq_iff] at hemp
                obtain ⟨rfl, rfl⟩ := hemp
                cases hd2
                exact .inl rfl
              · simp only [Bool.and_eq_true, beq_iff] at hemp
                obtain ⟨⟨_, rfl⟩, rfl⟩ := hemp
                rcases hd2.slice_inv with ⟨_, _, _, _, _, _, e⟩ | ⟨_, _, _, z, _, _, hcz, _⟩ | ⟨z, _, hcz, _⟩
                · exact .inr ⟨_, e⟩
                · exfalso; simp only [UNK] at hcz; omega
                · exfalso; simp only [UNK] at hcz; omega
              · cases hemp
            obtain ⟨v', w', q1, q2, q3⟩ := run_append_clone (P := P) (w := w) (t := t) (ty := o.type) m1 m2 m3 m4 hd3 hsl m5 m6
            have hmap : c.args.map ρ = #[d', p.val] := by apply Array.ext'; simpa using hx1
            have hts' : c.argTypes = #[t, t] := by apply Array.ext'; simpa using hts
            have hpsi := m8 w.heap.size (w'.heap.size - w.heap.size) w' v' (q3.mono fun g hg => ⟨hg.1, by have := hg.2; omega⟩)
            have hR' := hR.newTok q2 htr hpsi
            have hone : v'.oneCell' = true := by
              obtain ⟨⟨_, a, cc, e, _⟩, _⟩ := q3
              rw [e]; rfl
            refine ⟨v', w', _, ?_, Mu.put_le (hR.fresh _ (Nat.le_refl _)), hR', .vtok (Mu.put_same _ _ _) hone⟩
            simp only [resolve, hc, Sem.run_bind, Sem.run_pure, Result.andThen_ok, invoke, hmap, hts', builtin, q1]
          · cases hv
        · cases hv
      · cases hv
    · cases hv
  · cases hv

theorem tab_base (h : TabOK P η tb) : FactsOK η (tb.fx P) where
  bin := fun op k x y v hv => by
    obtain ⟨e, h1, rfl, rfl, rfl, rfl, rfl⟩ := lookFE_mem hv
    exact h.fe e h1
  conv := fun k n m hv => h.cv k n m (lookC_mem hv)
  eqi := fun a b r hv => h.eqi a b r (lookI_mem hv)
  eqb := fun a b r hv => h.eqb a b r (lookN_mem hv)

theorem tab_ok (h : TabOK P η tb) : FxOK P η (tb.fx P) where
  base := tab_base h
  pu := fun _ _ _ _ _ _ _ _ hR he hv => tabPu_sound h hR he hv
  st := fun _ _ _ _ _ _ _ _ hR he hv => tabSt_sound h hR he hv

end

/-! ### Calls that are answered by contracts -/
inductive Con where
  | clone (g : FuncId) (k k' : Nat)
  | eq (g : FuncId) (k1 k2 : Nat) (b : Bool)
  | eqw (g : FuncId) (k1 k2 : Nat) (b : Bool)
  | eqf (g c : FuncId) (k1 k2 : Nat) (b : Bool)
  | const (g : FuncId) (b : Bool)

def Con.ok (P : Program) (η : Env) : Con → Prop
  | .clone g k k' => ∀ (w : World) (v : Value) (b n : Nat), (∀ x, η.old x → x < w.heap.size) → η.psi k b n w v → Calls P g ⟨[v]⟩ w fun e w' => ∃ v', e = .returned v' ∧ v'.oneCell' = true ∧ Below w.heap.size w w' ∧ η.psi k' w.heap.size (w'.heap.size - w.heap.size) w' v'
  | .eq g k1 k2 r => ∀ (w : World) (v1 v2 : Value) (b1 n1 b2 n2 : Nat), (∀ x, η.old x → x < w.heap.size) → η.psi k1 b1 n1 w v1 → η.psi k2 b2 n2 w v2 → Calls P g ⟨[v1, v2]⟩ w fun e w' => e = .returned (.bool r) ∧ Below w.heap.size w w'
  | .eqw g k1 k2 r => ∀ (w : World) (v1 v2 : Value) (b1 n1 b2 n2 : Nat), (∀ x, η.old x → x < w.heap.size) → η.psi k1 b1 n1 w v1 → η.psi k2 b2 n2 w v2 → Calls P g ⟨[.agg #[v1], .agg #[v2]]⟩ w fun e w' => e = .returned (.bool r) ∧ Below w.heap.size w w'
  | .eqf g c k1 k2 r => ∀ (w : World) (v1 v2 : Value) (b1 n1 b2 n2 : Nat), (∀ x, η.old x → x < w.heap.size) → η.psi k1 b1 n1 w v1 → η.psi k2 b2 n2 w v2 → Calls P g ⟨[v1, v2, .func (.func c) #[] #[]]⟩ w fun e w' => e = .returned (.bool r) ∧ Below w.heap.size w w'
  | .const g r => ∀ w : World, (∀ x, η.old x → x < w.heap.size) → (∀ (w0 : Base) (μ : Mu) (s : St), R η w0 μ s w → Calls P g ⟨[]⟩ w fun e w' => e = .returned (.bool r) ∧ Below w.heap.size w w')

def Con.ask (g : FuncId) (args : List Value) (s : St) : Con → Option (Value × St)
  | .clone g' k k' => bif Nat.beq g g' then match args with
    | [.chan (some i)] => match s.h.get i with
      | some (.tok j) => bif Nat.beq j k then (match Tr.set 64 s.h s.next (.tok k') with
        | some h => some (.chan (some s.next), { s with h := h, next := s.next + 1 })
        | none => none) else none
      | _ => none
    | _ => none else none
  | .eq g' k1 k2 r => bif Nat.beq g g' then match args with
    | [.chan (some i), .chan (some j)] => match s.h.get i, s.h.get j with
      | some (.tok a), some (.tok b) => bif Nat.beq a k1 && Nat.beq b k2 then some (.bool r, s) else none
      | _, _ => none
    | _ => none else none
  | .eqw g' k1 k2 r => bif Nat.beq g g' then match args with
    | [.agg ⟨[.chan (some i)]⟩, .agg ⟨[.chan (some j)]⟩] => match s.h.get i, s.h.get j with
      | some (.tok a), some (.tok b) => bif Nat.beq a k1 && Nat.beq b k2 then some (.bool r, s) else none
      | _, _ => none
    | _ => none else none
  | .eqf g' c k1 k2 r => bif Nat.beq g g' then match args with
    | [.chan (some i), .chan (some j), .func (.func c') ⟨[]⟩ ⟨[]⟩] => match s.h.get i, s.h.get j with
      | some (.tok a), some (.tok b) => bif Nat.beq a k1 && Nat.beq b k2 && Nat.beq c c' then some (.bool r, s) else none
      | _, _ => none
    | _ => none else none
  | .const g' r => bif Nat.beq g g' then match args with
    | [] => some (.bool r, s)
    | _ => none else none

def conK : List Con → HCall
  | [], _, _, _ => none
  | c :: l, g, args, s => match c.ask g args s with
    | some r => some r
    | none => conK l g args s

theorem conK_ok {P : Program} {η : Env} : ∀ (l : List Con), (∀ c ∈ l, c.ok P η) → CallOK P η (conK l) := by
  intro l
  induction l with
  | nil => intro _ w0 μ s s' w g args args' v h ha hr; cases hr
  | cons c l ih =>
    intro hl w0 μ s s' w g args args' v h ha hr
    simp only [conK] at hr
    split at hr
    · rename_i r hc
      cases hr
      have hok := hl c (List.mem_cons_self ..)
      have hold : ∀ x, η.old x → x < w.heap.size := fun x hx => w0.old _ _ h.below (h.eold x hx)
      cases c with
      | clone g' k k' =>
        simp only [Con.ask] at hc
        have hc2 := bif_some hc
        clear hc
        obtain ⟨hg, hc⟩ := hc2
        rw [beq_iff] at hg
        subst g'
        split at hc
        · rename_i i
          split at hc
          · rename_i j hj
            have hc2 := bif_some hc
            clear hc
            obtain ⟨hjk, hc⟩ := hc2
            rw [beq_iff] at hjk
            subst hjk
            split at hc
            · rename_i tr htr
              cases hc
              obtain ⟨p, p1, p2, p3, p4⟩ := h.tok i j hj
              cases ha with
              | cons h1 h2 =>
                cases h2
                cases h1 with
                | @vtok _ p' hp' ho =>
                  rw [p1] at hp'
                  cases hp'
                  refine (hok w p.val _ _ hold p4).mono fun e w' ⟨v', k1, k2, k3, k4⟩ => ?_
                  exact ⟨v', _, k1, Mu.put_le (h.fresh _ (Nat.le_refl _)), h.newTok k3 htr k4, .vtok (Mu.put_same _ _ _) k2⟩
            · cases hc
          · cases hc
        · cases hc
      | eq g' k1 k2 b =>
        simp only [Con.ask] at hc
        have hc2 := bif_some hc
        clear hc
        obtain ⟨hg, hc⟩ := hc2
        rw [beq_iff] at hg
        subst g'
        split at hc
        · rename_i i j
          split at hc
          · rename_i x y hi hj
            have hc2 := bif_some hc
            clear hc
            obtain ⟨hxy, hc⟩ := hc2
            simp only [Bool.and_eq_true, beq_iff] at hxy
            obtain ⟨rfl, rfl⟩ := hxy
            cases hc
            obtain ⟨p, p1, p2, p3, p4⟩ := h.tok i x hi
            obtain ⟨q, q1, q2, q3, q4⟩ := h.tok j y hj
            cases ha with
            | cons h1 h2 =>
              cases h2 with
              | cons h2 h3 =>
                cases h3
                cases h1 with
                | @vtok _ p' hp' ho =>
                  rw [p1] at hp'
                  cases hp'
                  cases h2 with
                  | @vtok _ q' hq' ho' =>
                    rw [q1] at hq'
                    cases hq'
                    exact (hok w p.val q.val _ _ _ _ hold p4 q4).mono fun e w' ⟨k1, k2⟩ => ⟨_, μ, k1, Mu.le_refl _, h.garbage k2, .bool b⟩
          · cases hc
        · cases hc
      | eqw g' k1 k2 b =>
        simp only [Con.ask] at hc
        have hc2 := bif_some hc
        clear hc
        obtain ⟨hg, hc⟩ := hc2
        rw [beq_iff] at hg
        subst g'
        split at hc
        · rename_i i j
          split at hc
          · rename_i x y hi hj
            have hc2 := bif_some hc
            clear hc
            obtain ⟨hxy, hc⟩ := hc2
            simp only [Bool.and_eq_true, beq_iff] at hxy
            obtain ⟨rfl, rfl⟩ := hxy
            cases hc
            obtain ⟨p, p1, p2, p3, p4⟩ := h.tok i x hi
            obtain ⟨q, q1, q2, q3, q4⟩ := h.tok j y hj
            cases ha with
            | cons h1 h2 =>
              cases h2 with
              | cons h2 h3 =>
                cases h3
                cases h1 with
                | agg h1 =>
                  cases h1 with
                  | cons h1 h1' =>
                    cases h1'
                    cases h1 with
                    | @vtok _ p' hp' ho =>
                      rw [p1] at hp'
                      cases hp'
                      cases h2 with
                      | agg h2 =>
                        cases h2 with
                        | cons h2 h2' =>
                          cases h2'
                          cases h2 with
                          | @vtok _ q' hq' ho' =>
                            rw [q1] at hq'
                            cases hq'
                            exact (hok w p.val q.val _ _ _ _ hold p4 q4).mono fun e w' ⟨k1, k2⟩ => ⟨_, μ, k1, Mu.le_refl _, h.garbage k2, .bool b⟩
          · cases hc
        · cases hc
      | eqf g' c' k1 k2 b =>
        simp only [Con.ask] at hc
        have hc2 := bif_some hc
        clear hc
        obtain ⟨hg, hc⟩ := hc2
        rw [beq_iff] at hg
        subst g'
        split at hc
        · rename_i i j c2
          split at hc
          · rename_i x y hi hj
            have hc2 := bif_some hc
            clear hc
            obtain ⟨hxy, hc⟩ := hc2
            simp only [Bool.and_eq_true, beq_iff] at hxy
            obtain ⟨⟨rfl, rfl⟩, rfl⟩ := hxy
            cases hc
            obtain ⟨p, p1, p2, p3, p4⟩ := h.tok i x hi
            obtain ⟨q, q1, q2, q3, q4⟩ := h.tok j y hj
            cases ha with
            | cons h1 h2 =>
              cases h2 with
              | cons h2 h3 =>
                cases h3 with
                | cons h3 h4 =>
                  cases h4
                  cases h3 with
                  | func hf1 hf2 =>
                    cases hf1
                    cases hf2
                    cases h1 with
                    | @vtok _ p' hp' ho =>
                      rw [p1] at hp'
                      cases hp'
                      cases h2 with
                      | @vtok _ q' hq' ho' =>
                        rw [q1] at hq'
                        cases hq'
                        exact (hok w p.val q.val _ _ _ _ hold p4 q4).mono fun e w' ⟨k1, k2⟩ => ⟨_, μ, k1, Mu.le_refl _, h.garbage k2, .bool b⟩
          · cases hc
        · cases hc
      | const g' b =>
        simp only [Con.ask] at hc
        have hc2 := bif_some hc
        clear hc
        obtain ⟨hg, hc⟩ := hc2
        rw [beq_iff] at hg
        subst g'
        split at hc
        · cases hc
          cases ha
          exact (hok w hold w0 μ s h).mono fun e w' ⟨k1, k2⟩ => ⟨_, μ, k1, Mu.le_refl _, h.garbage k2, .bool b⟩
        · cases hc
    · exact ih (fun c hc => hl c (List.mem_cons_of_mem _ hc)) w0 μ s s' w g args args' v h ha hr

end Go.Hx
