/- The executor's quiet operations: one value in every world in which the old blocks are as they were. -/
import Derived.Test.YtpjfmjemmphheadGreatDoorHx8
namespace Go.Hx
open Go Go.RowKit

/-- No slice whose capacity is unknown: the model's value is determined. -/
def uq : Nat → Value → Bool
  | _, .bool _ => true
  | _, .int _ _ => true
  | _, .string _ => true
  | _, .pointer _ => true
  | _, .slice _ _ c => Nat.blt c UNK
  | _, .map _ => true
  | _, .nilFunc => true
  | _, .nilIface => true
  | _, .float .f64 _ => true
  | _, .chan (some _) => true
  | d + 1, .func _ f c => f.toList.all (uq d) && c.toList.all (uq d)
  | d + 1, .iface _ v => uq d v
  | d + 1, .agg cs => cs.toList.all (uq d)
  | d + 1, .tuple cs => cs.toList.all (uq d)
  | _, _ => false


theorem VR.uniq {η : Env} {μ : Mu} : ∀ (d : Nat) (v x y : Value), uq d v = true → VR η μ v x → VR η μ v y → x = y := by
  intro d
  induction d with
  | zero =>
    intro v x y hu hx hy
    cases hx with
    | ptr h => cases hy with | ptr h' => rw [h] at h'; cases h'; rfl
    | map h => cases hy with | map h' => rw [h] at h'; cases h'; rfl
    | sliceK h hc => cases hy with
      | sliceK h' _ => rw [h] at h'; cases h'; rfl
      | sliceU h' _ _ _ => exact absurd hc (by omega)
      | sliceE => exact absurd hc (by omega)
    | sliceU h hn hm hr => simp [uq] at hu; omega
    | sliceE => simp [uq] at hu; omega
    | snil => cases hy; rfl
    | btok n => cases hy; rfl
    | vtok h hv => cases hy with | vtok h' _ => rw [h] at h'; cases h'; rfl
    | bool b => cases hy; rfl
    | int k n => cases hy; rfl
    | str s => cases hy; rfl
    | pnil => cases hy; rfl
    | mnil => cases hy; rfl
    | nfun => cases hy; rfl
    | nifc => cases hy; rfl
    | func h1 h2 => simp [uq] at hu
    | iface h => simp [uq] at hu
    | agg h => simp [uq] at hu
    | tuple h => simp [uq] at hu
  | succ d ih =>
    have hs : ∀ (l x y : List Value), l.all (uq d) = true → VRs η μ l x → VRs η μ l y → x = y := by
      intro l
      induction l with
      | nil => intro x y _ h h'; cases h; cases h'; rfl
      | cons a l ihl =>
        intro x y hf h h'
        simp only [List.all_cons, Bool.and_eq_true] at hf
        cases h with
        | cons h t => cases h' with
          | cons h' t' => rw [ih _ _ _ hf.1 h h', ihl _ _ hf.2 t t']
    intro v x y hu hx hy
    cases hx with
    | ptr h => cases hy with | ptr h' => rw [h] at h'; cases h'; rfl
    | map h => cases hy with | map h' => rw [h] at h'; cases h'; rfl
    | sliceK h hc => cases hy with
      | sliceK h' _ => rw [h] at h'; cases h'; rfl
      | sliceU h' _ _ _ => exact absurd hc (by omega)
      | sliceE => exact absurd hc (by omega)
    | sliceU h hn hm hr => simp [uq] at hu; omega
    | sliceE => simp [uq] at hu; omega
    | snil => cases hy; rfl
    | btok n => cases hy; rfl
    | vtok h hv => cases hy with | vtok h' _ => rw [h] at h'; cases h'; rfl
    | bool b => cases hy; rfl
    | int k n => cases hy; rfl
    | str s => cases hy; rfl
    | pnil => cases hy; rfl
    | mnil => cases hy; rfl
    | nfun => cases hy; rfl
    | nifc => cases hy; rfl
    | func h1 h2 => cases hy with
      | func h1' h2' =>
        simp only [uq, Bool.and_eq_true] at hu
        rw [hs _ _ _ hu.1 h1 h1', hs _ _ _ hu.2 h2 h2']
    | iface h => cases hy with
      | iface h' => simp only [uq] at hu; rw [ih _ _ _ hu h h']
    | agg h => cases hy with
      | agg h' => simp only [uq] at hu; rw [hs _ _ _ hu h h']
    | tuple h => cases hy with
      | tuple h' => simp only [uq] at hu; rw [hs _ _ _ hu h h']

section
variable {η : Env} {w0 : Base} {μ : Mu} {s : St} {w : World} {P : Program} {fx : Facts} {ev : Operand → Option Value} {ρ : Operand → Value}

/-- A load, in every world that has the cells that this one has. -/
theorem load_still (h : R η w0 μ s w) {t : TypeId} {v r v' : Value} (hl : hLoad P s t v = some r) (hv : VR η μ v v') :
    ∃ r', (∀ w', (∀ a, v' = .pointer (some a) → w'.heap[a.block]? = w.heap[a.block]?) → (Instr.loadAt t v').run P w' = .ok r' w' ∧ ∀ a, v' = .pointer (some a) → (loadVar t a).run P w' = .ok r' w') ∧ VR η μ r r' := by
  unfold hLoad at hl
  split at hl
  · rename_i i o
    cases hu : P.underlying t with
    | none => simp only [hu] at hl; cases hl
    | some d =>
      simp only [hu] at hl
      cases hv with
      | ptr hp =>
        rename_i p
        cases hd : isAggD d with
        | true =>
          simp only [hd, cond_true] at hl
          cases hi : P.info? t with
          | none => simp only [hi] at hl; cases hl
          | some f =>
            simp only [hi, Option.map_eq_some_iff] at hl
            obtain ⟨l, hl, rfl⟩ := hl
            obtain ⟨p', l', h1, h2, h3, h4, h5⟩ := rd_sound h hl
            rw [hp] at h1; cases h1
            refine ⟨.agg l'.toArray, fun w' hw' => ?_, .agg h4⟩
            have hrun := run_loadCells_list (P := P) w' ⟨p.blk, p.base + o, none⟩ l' (fun j x hj => (World.cell?_of_block (by rw [add_plain']; exact hw' ⟨p.blk, p.base + o, none⟩ rfl)).trans (h5 j x hj))
            rw [h3] at hrun
            have k : (loadVar t ⟨p.blk, p.base + o, none⟩).run P w' = .ok (.agg l'.toArray) w' := by
              simp [loadVar, run_isAgg hu, hd, sizeOf, typeInfo, hi, hrun]
            exact ⟨by simpa [Instr.loadAt, Instr.sureAddr] using k, fun a ha => by cases ha; exact k⟩
        | false =>
          simp only [hd, cond_false] at hl
          split at hl
          · rename_i x hx
            simp only [Option.some.injEq] at hl
            subst hl
            obtain ⟨p', l', h1, h2, h3, h4, h5⟩ := rd_sound h hx
            rw [hp] at h1; cases h1
            cases h4 with
            | cons h6 h7 =>
              rename_i x' l''
              have h8 := h5 0 x' rfl
              rw [add_plain'] at h8
              simp only [Nat.add_zero] at h8
              refine ⟨x', fun w' hw' => ?_, h6⟩
              have h9 := (World.cell?_of_block (w := w) (w' := w') (hw' _ rfl)).trans h8
              have k : (loadVar t ⟨p.blk, p.base + o, none⟩).run P w' = .ok x' w' := by
                simp [loadVar, run_isAgg hu, hd, h9]
              exact ⟨by simpa [Instr.loadAt, Instr.sureAddr] using k, fun a ha => by cases ha; exact k⟩
          · cases hl
  · cases hl

/-- Operations that leave the world alone, loads apart: what they yield. -/
def hpure (P : Program) (fx : Facts) (ev : Operand → Option Value) (o : Oper) : Option Value :=
  match o.op with
  | .binOp op t x y _ => match ev x, ev y with
    | some vx, some vy => hBin P fx op t x y vx vy
    | _, _ => none
  | .unOp op _ x => match ev x with
    | some v => bif flatN 6 v then hFlat P (Op.unary op v) else none
    | none => none
  | .convert src dst x => match ev x with
    | some v => hConv P fx src dst v
    | none => none
  | .fieldAddr t x f => match ev x with
    | some v => hFieldAddr P t v f
    | none => none
  | .field t x f => match ev x with
    | some v => hField P t v f
    | none => none
  | .indexAddr t x i => match ev x, ev i with
    | some vx, some vi => hIndexAddr P t vx vi
    | _, _ => none
  | .index t x i => match ev x, ev i with
    | some vx, some vi => hIndex P t vx vi
    | _, _ => none
  | .extract t k => match ev t with
    | some (.tuple vs) => vs.toList[k]?
    | _ => none
  | .makeInterface t x => match ev x, P.underlying t with
    | some v, some d => bif isIfaceD d then none else some (.iface t v)
    | _, _ => none
  | .call c => match c.callee, c.argTypes.toList, evs ev c.args.toList with
    | .builtin .len, [t], some [x] => match P.underlying t, x with
      | some (.slice _), .slice _ n _ => bif decide ((n : Int) < TOK) then some (.int .i64 n) else none
      | some (.array n _), _ => bif decide ((n : Int) < TOK) then some (.int .i64 n) else none
      | some .string, .string b => bif decide ((b.size : Int) < TOK) then some (.int .i64 b.size) else none
      | _, _ => none
    | _, _, _ => none
  | _ => none

theorem hpure_sound (hfx : FactsOK η fx) (he : ∀ x v, ev x = some v → VR η μ v (ρ x)) {o : Oper} {v : Value} (ho : hpure P fx ev o = some v) (w : World) :
    ∃ v', (execOp ρ o).run P w = .ok (.value v') w ∧ VR η μ v v' := by
  unfold hpure at ho
  unfold execOp
  split at ho
  · rename_i op t x y yt hop
    rw [hop]
    split at ho
    · rename_i vx vy hvx hvy
      obtain ⟨v', k1, k2⟩ := bin_sound hfx ho (he _ _ hvx) (he _ _ hvy) w
      exact ⟨v', by simp only [Sem.run_bind] at k1 ⊢; rw [k1]; rfl, k2⟩
    · cases ho
  · rename_i op t x hop
    rw [hop]
    split at ho
    · rename_i vx hvx
      obtain ⟨hfl, ho⟩ := bif_some ho
      have hfe := flat_eq 6 _ _ hfl (he _ _ hvx)
      obtain ⟨k1, k2⟩ := hFlat_sound (η := η) (μ := μ) ho w
      exact ⟨v, by dsimp only; rw [← hfe]; simp only [Sem.run_bind, k1, Result.andThen_ok, Sem.run_pure], k2⟩
    · cases ho
  · rename_i src dst x hop
    rw [hop]
    split at ho
    · rename_i vx hvx
      obtain ⟨v', k1, k2⟩ := conv_sound hfx ho (he _ _ hvx) w
      exact ⟨v', by simp only [Sem.run_bind, k1, Result.andThen_ok, Sem.run_pure], k2⟩
    · cases ho
  · rename_i t x f hop
    rw [hop]
    split at ho
    · rename_i vx hvx
      obtain ⟨v', k1, k2⟩ := fieldAddr_sound ho (he _ _ hvx) w
      exact ⟨v', by simp only [Sem.run_bind, k1, Result.andThen_ok, Sem.run_pure], k2⟩
    · cases ho
  · rename_i t x f hop
    rw [hop]
    split at ho
    · rename_i vx hvx
      obtain ⟨v', k1, k2⟩ := field_sound ho (he _ _ hvx) w
      exact ⟨v', by simp only [Sem.run_bind, k1, Result.andThen_ok, Sem.run_pure], k2⟩
    · cases ho
  · rename_i t x i hop
    rw [hop]
    split at ho
    · rename_i vx vi hvx hvi
      obtain ⟨v', k1, k2⟩ := indexAddr_sound ho (he _ _ hvx) (he _ _ hvi) w
      exact ⟨v', by simp only [Sem.run_bind, k1, Result.andThen_ok, Sem.run_pure], k2⟩
    · cases ho
  · rename_i t x i hop
    rw [hop]
    split at ho
    · rename_i vx vi hvx hvi
      obtain ⟨v', k1, k2⟩ := index_sound ho (he _ _ hvx) (he _ _ hvi) w
      exact ⟨v', by simp only [Sem.run_bind, k1, Result.andThen_ok, Sem.run_pure], k2⟩
    · cases ho
  · rename_i t k hop
    rw [hop]
    split at ho
    · rename_i vs hvs
      have := he _ _ hvs
      dsimp only
      generalize ρ t = vt at this ⊢
      cases this with
      | tuple hl =>
        obtain ⟨v', k1, k2⟩ := hl.get k v ho
        exact ⟨v', by simp [Instr.extract, k1], k2⟩
    · cases ho
  · rename_i t x hop
    rw [hop]
    split at ho
    · rename_i vx d hvx hd
      have hvr := he _ _ hvx
      cases hi : isIfaceD d with
      | true => rw [hi] at ho; cases ho
      | false =>
        rw [hi] at ho
        cases ho
        refine ⟨.iface t (ρ x), ?_, .iface hvr⟩
        have hk : (Instr.makeInterface t (ρ x)).run P w = .ok (.iface t (ρ x)) w := by
          simp only [Instr.makeInterface, Sem.run_bind, run_underlying hd, Result.andThen_ok]
          cases d <;> first | (simp [isIfaceD] at hi; done) | rfl
        simp only [Sem.run_bind, hk, Result.andThen_ok, Sem.run_pure]
    · cases ho
  · rename_i c hop
    rw [hop]
    split at ho
    · rename_i t x hcal hts hargs
      have hav := evs_sound he _ _ hargs
      obtain ⟨x', hx1, hx2⟩ : ∃ x', c.args.toList.map ρ = [x'] ∧ VR η μ x x' := by
        generalize c.args.toList.map ρ = l at hav ⊢
        cases hav with
        | cons h1 h2 => cases h2; exact ⟨_, rfl, h1⟩
      have hmap : c.args.map ρ = #[x'] := by
        apply Array.ext'
        simpa using hx1
      have hts' : c.argTypes = #[t] := by
        apply Array.ext'
        simpa using hts
      have fin : ∀ n : Int, n < TOK → (Builtin.len_ #[t] o.type #[x']).run P w = .ok (.int .i64 n) w → ∃ v', (execOp ρ o).run P w = .ok (.value v') w ∧ VR η μ (.int .i64 n) v' := fun n hn hl => by
        have hv := VR.int (η := η) (μ := μ) .i64 n
        rw [dn_lt hn] at hv
        refine ⟨_, ?_, hv⟩
        unfold execOp
        rw [hop]
        simp only [resolve, hcal, Sem.run_bind, Sem.run_pure, Result.andThen_ok, invoke, hmap, hts', builtin, hl]
      unfold execOp at fin
      rw [hop] at fin
      split at ho
      · rename_i e a n cc hu
        obtain ⟨hn, ho⟩ := bif_some ho
        cases ho
        refine fin n (of_decide_eq_true hn) ?_
        cases hx2 <;> simp [Builtin.len_, run_underlying hu, goInt]
      · rename_i n e hu
        obtain ⟨hn, ho⟩ := bif_some ho
        cases ho
        exact fin n (of_decide_eq_true hn) (by simp [Builtin.len_, run_underlying hu, goInt])
      · rename_i b hu
        obtain ⟨hn, ho⟩ := bif_some ho
        cases ho
        refine fin b.size (of_decide_eq_true hn) ?_
        cases hx2
        simp [Builtin.len_, run_underlying hu, goInt]
      · cases ho
    · cases ho
  · cases ho

/-- The number behind a pointer or a map. -/
def idOf : Value → Option Nat
  | .pointer (some a) => some a.block
  | .map (some i) => some i
  | _ => none

/-- A quiet operation's value, and whose block it reads. -/
def hstill0 (P : Program) (fx : Facts) (s : St) (ev : Operand → Option Value) (o : Oper) : Option (Value × Option Nat) :=
  match o.op with
  | .move x => (ev x).map fun v => (v, none)
  | .assign x => (ev x).map fun v => (v, none)
  | .pick c a b => match ev c with
    | some (.bool true) => (ev a).map fun v => (v, none)
    | some (.bool false) => (ev b).map fun v => (v, none)
    | _ => none
  | .nilCheck x => match ev x with
    | some v => bif notNil v then some (v, none) else none
    | none => none
  | .load t a => match ev a with
    | some v => (hLoad P s t v).map fun r => (r, idOf v)
    | none => none
  | .lookup t x i ok => match ev x, ev i with
    | some vx, some vi => (hLookup P s t vx vi ok).map fun r => (r, idOf vx)
    | _, _ => none
  | _ => match hpure P fx ev o with
    | some v => bif uq 3 v then some (v, none) else none
    | none => none

theorem hLoad_ptr {t : TypeId} {v r : Value} (h : hLoad P s t v = some r) : ∃ i o, v = .pointer (some ⟨i, o, none⟩) := by
  unfold hLoad at h
  split at h
  · exact ⟨_, _, rfl⟩
  · cases h

theorem hLookup_map {t : TypeId} {v k r : Value} {ok : Bool} (h : hLookup P s t v k ok = some r) : ∃ i, v = .map i := by
  unfold hLookup hEntries at h
  cases v <;> simp at h <;> exact ⟨_, rfl⟩

theorem hstill0_sound (hfx : FactsOK η fx) (h : R η w0 μ s w) (he : ∀ x v, ev x = some v → VR η μ v (ρ x)) {o : Oper} {v : Value} {z : Option Nat} (ho : hstill0 P fx s ev o = some (v, z)) :
    ∃ v', (∀ w', (∀ i p, z = some i → μ i = some p → w'.heap[p.blk]? = w.heap[p.blk]?) → (execOp ρ o).run P w' = .ok (.value v') w') ∧ VR η μ v v' := by
  unfold hstill0 at ho
  split at ho
  · rename_i x hop
    simp only [Option.map_eq_some_iff, Prod.mk.injEq] at ho
    obtain ⟨u, hu, rfl, rfl⟩ := ho
    refine ⟨_, fun w' _ => ?_, he _ _ hu⟩
    unfold execOp
    rw [hop]
    rfl
  · rename_i x hop
    simp only [Option.map_eq_some_iff, Prod.mk.injEq] at ho
    obtain ⟨u, hu, rfl, rfl⟩ := ho
    refine ⟨_, fun w' _ => ?_, he _ _ hu⟩
    unfold execOp
    rw [hop]
    rfl
  · rename_i c a b hop
    split at ho
    · rename_i hc
      simp only [Option.map_eq_some_iff, Prod.mk.injEq] at ho
      obtain ⟨u, hu, rfl, rfl⟩ := ho
      have hcv := he _ _ hc
      refine ⟨_, fun w' _ => ?_, he _ _ hu⟩
      unfold execOp
      rw [hop]
      dsimp only
      generalize ρ c = vc at hcv ⊢
      cases hcv
      rfl
    · rename_i hc
      simp only [Option.map_eq_some_iff, Prod.mk.injEq] at ho
      obtain ⟨u, hu, rfl, rfl⟩ := ho
      have hcv := he _ _ hc
      refine ⟨_, fun w' _ => ?_, he _ _ hu⟩
      unfold execOp
      rw [hop]
      dsimp only
      generalize ρ c = vc at hcv ⊢
      cases hcv
      rfl
    · cases ho
  · rename_i x hop
    split at ho
    · rename_i u hu
      obtain ⟨hn, ho⟩ := bif_some ho
      cases ho
      have hvr := he _ _ hu
      refine ⟨_, fun w' _ => ?_, hvr⟩
      unfold execOp
      rw [hop]
      dsimp only
      generalize ρ x = vx at hvr ⊢
      unfold notNil at hn
      split at hn
      · cases hvr; rfl
      · cases hvr; rfl
      · cases hvr; rfl
      · cases hn
    · cases ho
  · rename_i t a hop
    split at ho
    · rename_i u hu
      simp only [Option.map_eq_some_iff, Prod.mk.injEq] at ho
      obtain ⟨r, hr, rfl, rfl⟩ := ho
      have hvr := he _ _ hu
      obtain ⟨r', k1, k2⟩ := load_still h hr hvr
      refine ⟨r', fun w' hw' => ?_, k2⟩
      unfold execOp
      rw [hop]
      obtain ⟨ui, uo, rfl⟩ := hLoad_ptr hr
      have k3 := (k1 w' (fun ad had => by
        rw [had] at hvr
        cases hvr with
        | ptr hp => exact hw' _ _ rfl hp)).1
      simp only [Sem.run_bind, k3, Result.andThen_ok, Sem.run_pure]
    · cases ho
  · rename_i t x i ok hop
    split at ho
    · rename_i vx vi hvx hvi
      simp only [Option.map_eq_some_iff, Prod.mk.injEq] at ho
      obtain ⟨r, hr, rfl, rfl⟩ := ho
      have hvr := he _ _ hvx
      obtain ⟨r', k1, k2⟩ := lookup_still h hr hvr (he _ _ hvi)
      refine ⟨r', fun w' hw' => ?_, k2⟩
      unfold execOp
      rw [hop]
      obtain ⟨ui, rfl⟩ := hLookup_map hr
      have k3 := k1 w' (fun q hq => by
        rw [hq] at hvr
        cases hvr with
        | map hp => exact hw' _ _ rfl hp)
      simp only [Sem.run_bind, k3, Result.andThen_ok, Sem.run_pure]
    · cases ho
  · split at ho
    · rename_i u hu
      obtain ⟨hq, ho⟩ := bif_some ho
      cases ho
      obtain ⟨v', k1, k2⟩ := hpure_sound hfx he hu w
      refine ⟨v', fun w' _ => ?_, k2⟩
      obtain ⟨v'', k3, k4⟩ := hpure_sound hfx he hu w'
      rw [k3, VR.uniq 3 _ _ _ hq k2 k4]
    · cases ho

def hstill (P : Program) (fx : Facts) (s : St) (ev : Operand → Option Value) (o : Oper) : Option (Value × Option Nat) :=
  match hstill0 P fx s ev o with
  | some r => some r
  | none => match fx.pu s ev o.op with
    | some v => some (v, none)
    | none => none

theorem hstill_sound (hfx : FxOK P η fx) (h : R η w0 μ s w) (he : ∀ x v, ev x = some v → VR η μ v (ρ x)) {o : Oper} {v : Value} {z : Option Nat} (ho : hstill P fx s ev o = some (v, z)) :
    ∃ v', (∀ w', (∀ i p, z = some i → μ i = some p → w'.heap[p.blk]? = w.heap[p.blk]?) → (execOp ρ o).run P w' = .ok (.value v') w') ∧ VR η μ v v' := by
  unfold hstill at ho
  split at ho
  · rename_i r hr
    cases ho
    exact hstill0_sound hfx.base h he hr
  · split at ho
    · rename_i u hu
      cases ho
      obtain ⟨v', k1, k2⟩ := hfx.pu w0 μ s w ev ρ o v h he hu
      exact ⟨v', fun w' _ => k1 w', k2⟩
    · cases ho

end
end Go.Hx
