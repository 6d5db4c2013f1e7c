/- The executor's steps: building values and slices, cutting slices, append, len. -/
import Derived.Test.YtpjfmjemmphheadGreatDoorHx4
namespace Go.Hx
open Go Go.RowKit

section
variable {η : Env} {w0 : Base} {μ : Mu} {s : St} {w : World} {P : Program}

/-! ### build -/
theorem foldl_fill {off : Nat} : ∀ (l l' : List Value) (k : Nat) (cs cs' : List Value), VRs η μ l l' → VRs η μ cs cs' →
    VRs η μ ((l.zipIdx k).foldl (fun (cs : Array Value) (x : Value × Nat) => cs.setIfInBounds (off + x.2) x.1) ⟨cs⟩).toList ((l'.zipIdx k).foldl (fun (cs : Array Value) (x : Value × Nat) => cs.setIfInBounds (off + x.2) x.1) ⟨cs'⟩).toList := by
  intro l
  induction l with
  | nil => intro l' k cs cs' h hc; cases h; exact hc
  | cons a l ih =>
    intro l' k cs cs' h hc
    cases h with
    | cons h t =>
      simp only [List.zipIdx_cons, List.foldl_cons]
      have e : ∀ (c : List Value) (x : Value), (⟨c⟩ : Array Value).setIfInBounds (off + k) x = ⟨c.set (off + k) x⟩ := fun c x => by apply Array.ext'; rw [Array.toList_setIfInBounds]
      rw [e, e]
      exact ih _ (k + 1) _ _ t (hc.set (off + k) h)

theorem fill_vr {place : Nat → Option (Nat × Nat)} : ∀ (ps ps' : List (Nat × Value)) (cs cs' : List Value), (ps.map (·.1) = ps'.map (·.1)) → VRs η μ (ps.map (·.2)) (ps'.map (·.2)) → VRs η μ cs cs' →
    ∀ r, Instr.fill place ⟨cs⟩ ps = some r → ∃ r', Instr.fill place ⟨cs'⟩ ps' = some r' ∧ VRs η μ r.toList r'.toList := by
  intro ps
  induction ps with
  | nil =>
    intro ps' cs cs' hi hv hc r hr
    cases ps' with
    | cons _ _ => simp at hi
    | nil => simp only [Instr.fill, Option.some.injEq] at hr ⊢; subst hr; exact ⟨_, rfl, hc⟩
  | cons p ps ih =>
    intro ps' cs cs' hi hv hc r hr
    cases ps' with
    | nil => simp at hi
    | cons p' ps' =>
      obtain ⟨i, v⟩ := p
      obtain ⟨i', v'⟩ := p'
      simp only [List.map_cons, List.cons.injEq] at hi hv
      obtain ⟨rfl, hi⟩ := hi
      cases hv with
      | cons h t =>
        have hcv := h.cells
        have hl := hcv.length
        simp only [Array.length_toList] at hl
        have hcl := hc.length
        simp only [Instr.fill] at hr ⊢
        cases hp : place i with
        | none => simp [hp] at hr
        | some q =>
          obtain ⟨off, size⟩ := q
          simp only [hp] at hr ⊢
          split at hr
          · cases hr
          · rename_i hno
            have hno' : ¬ (v'.cells.size ≠ size ∨ off + v'.cells.size > cs'.length) := by
              simp at hno ⊢
              omega
            simp only [List.size_toArray, ne_eq, gt_iff_lt, Bool.or_eq_true, decide_eq_true_eq] at hno hno' ⊢
            rw [if_neg (by simpa using hno')]
            have := foldl_fill (off := off) v.cells.toList v'.cells.toList 0 cs cs' hcv hc
            have e1 : ∀ (u : Value) (c : List Value), (u.cells.zipIdx.foldl (fun (cs : Array Value) (x : Value × Nat) => cs.setIfInBounds (off + x.2) x.1) ⟨c⟩) = (u.cells.toList.zipIdx 0).foldl (fun (cs : Array Value) (x : Value × Nat) => cs.setIfInBounds (off + x.2) x.1) ⟨c⟩ := by
              intro u c
              rw [← Array.foldl_toList, Array.toList_zipIdx]
            have h2 := ih ps' _ _ hi t this r (by rw [← hr]; congr 1; exact (e1 v cs).symm)
            obtain ⟨r', h3, h4⟩ := h2
            refine ⟨r', ?_, h4⟩
            rw [← h3]
            congr 1
            exact e1 v' cs'

def parts? (ev : Operand → Option Value) : List (Nat × Operand) → Option (List (Nat × Value))
  | [] => some []
  | (i, x) :: l => match ev x, parts? ev l with
    | some v, some r => some ((i, v) :: r)
    | _, _ => none

theorem parts_vr {ev : Operand → Option Value} {ρ : Operand → Value} (he : ∀ x v, ev x = some v → VR η μ v (ρ x)) : ∀ (l : List (Nat × Operand)) (r : List (Nat × Value)), parts? ev l = some r →
    r.map (·.1) = (l.map fun (i, x) => (i, ρ x)).map (·.1) ∧ VRs η μ (r.map (·.2)) ((l.map fun (i, x) => (i, ρ x)).map (·.2)) := by
  intro l
  induction l with
  | nil => intro r h; simp [parts?] at h; subst h; exact ⟨rfl, .nil⟩
  | cons p l ih =>
    intro r h
    obtain ⟨i, x⟩ := p
    simp only [parts?] at h
    split at h
    · rename_i v r' hv hr
      simp at h
      subst h
      obtain ⟨h1, h2⟩ := ih r' hr
      exact ⟨by simp only [List.map_cons]; rw [h1], .cons (he _ _ hv) h2⟩
    · cases h

/-- The zero value of a type, if no address is in it (it never is). -/
def zeroC (P : Program) (t : TypeId) : Option (List Value) :=
  match P.info? t with
  | some f => match f.zero with
    | some z => bif z.cells.toList.all (flatN 2) then some z.cells.toList else none
    | none => none
  | none => none

theorem zero_flat {l : List Value} {d : Nat} (h : l.all (flatN d) = true) : VRs η μ l l := by
  induction l with
  | nil => exact .nil
  | cons a l ih => simp only [List.all_cons, Bool.and_eq_true] at h; exact .cons (flat_self d a h.1) (ih h.2)

theorem zeroC_some {t : TypeId} {l : List Value} (h : zeroC P t = some l) : ∃ f z, P.info? t = some f ∧ f.zero = some z ∧ l = z.cells.toList ∧ l.all (flatN 2) = true := by
  unfold zeroC at h
  cases hi : P.info? t with
  | none => simp [hi] at h
  | some f =>
    simp only [hi] at h
    cases hz : f.zero with
    | none => simp [hz] at h
    | some z =>
      simp only [hz] at h
      cases ha : z.cells.toList.all (flatN 2) with
      | false => rw [ha] at h; simp at h
      | true => rw [ha] at h; simp only [cond_true, Option.some.injEq] at h; subst h; exact ⟨f, z, rfl, hz, rfl, ha⟩

def hBuild (P : Program) (t : TypeId) (ps : List (Nat × Value)) : Option Value :=
  match zeroC P t, P.underlying t with
  | some z, some (.array _ e) => match P.info? e with
    | some ie => (Instr.fill (fun i => some (i * ie.size, ie.size)) ⟨z⟩ ps).map .agg
    | none => none
  | some z, some (.struct fields) => match fields.toList.mapM (fun f => (P.info? f.type).map fun i => (f.offset, i.size)) with
    | some places => (Instr.fill (places.toArray[·]?) ⟨z⟩ ps).map .agg
    | none => none
  | _, _ => none

theorem build_sound {t : TypeId} {ps ps' : List (Nat × Value)} {v : Value} (h : hBuild P t ps = some v) (hi : ps.map (·.1) = ps'.map (·.1)) (hv : VRs η μ (ps.map (·.2)) (ps'.map (·.2))) (w : World) :
    ∃ v', (Instr.build t ps'.toArray).run P w = .ok v' w ∧ VR η μ v v' := by
  unfold hBuild at h
  split at h
  · rename_i z n e hz hu
    obtain ⟨f, z', h1, h2, rfl, h3⟩ := zeroC_some hz
    cases hie : P.info? e with
    | none => simp [hie] at h
    | some ie =>
      simp only [hie, Option.map_eq_some_iff] at h
      obtain ⟨r, hr, rfl⟩ := h
      obtain ⟨r', h4, h5⟩ := fill_vr ps ps' _ _ hi hv (zero_flat h3) r hr
      refine ⟨.agg r', run_build w t _ r' ?_, by obtain ⟨r⟩ := r; obtain ⟨r'⟩ := r'; exact .agg h5⟩
      simp only [Program.built, h1, hu, h2, hie]
      exact h4
  · rename_i z fields hz hu
    obtain ⟨f, z', h1, h2, rfl, h3⟩ := zeroC_some hz
    cases hp : fields.toList.mapM (fun f => (P.info? f.type).map fun i => (f.offset, i.size)) with
    | none => simp [hp] at h
    | some places =>
      simp only [hp, Option.map_eq_some_iff] at h
      obtain ⟨r, hr, rfl⟩ := h
      obtain ⟨r', h4, h5⟩ := fill_vr ps ps' _ _ hi hv (zero_flat h3) r hr
      refine ⟨.agg r', run_build w t _ r' ?_, by obtain ⟨r⟩ := r; obtain ⟨r'⟩ := r'; exact .agg h5⟩
      simp only [Program.built, h1, hu, h2, hp]
      exact h4
  · cases h

/-! ### new variables -/
def hAlloc (P : Program) (s : St) (e : TypeId) : Option (Value × St) :=
  match zeroC P e with
  | some z => (hNew s z e).map fun (i, s') => (.pointer (some ⟨i, 0, none⟩), s')
  | none => none

theorem new_ptr (h : R η w0 μ s w) {c c' : List Value} {e : TypeId} {i : Nat} {s' : St} (hn : hNew s c e = some (i, s')) (hc : VRs η μ c c') :
    ∃ μ', μ.le μ' ∧ R η w0 μ' s' (w.alloc (.cells ⟨c'⟩ e)) ∧ VR η μ' (.pointer (some ⟨i, 0, none⟩)) (.pointer (some ⟨w.heap.size, 0, none⟩)) ∧ μ' i = some ⟨w.heap.size, 0, c'.length, undef⟩ := by
  obtain ⟨μ', h1, h2, h3⟩ := new_sound h hn (cur := ⟨c'⟩) (by simp [hc.length]) (CsR.of_vrs hc)
  refine ⟨μ', h1, h2, ?_, by simpa using h3⟩
  have := VR.ptr (η := η) (o := 0) h3
  simpa using this

theorem alloc_sound (h : R η w0 μ s w) {e : TypeId} {v : Value} {s' : St} (ha : hAlloc P s e = some (v, s')) (old : Value) :
    ∃ v' w' μ', (Instr.alloc e true old).run P w = .ok v' w' ∧ μ.le μ' ∧ R η w0 μ' s' w' ∧ VR η μ' v v' := by
  unfold hAlloc at ha
  cases hz : zeroC P e with
  | none => simp [hz] at ha
  | some z =>
    simp only [hz, Option.map_eq_some_iff, Prod.mk.injEq] at ha
    obtain ⟨⟨i, s1⟩, hn, rfl, rfl⟩ := ha
    obtain ⟨f, z', h1, h2, rfl, h3⟩ := zeroC_some hz
    obtain ⟨μ', k1, k2, k3, _⟩ := new_ptr h hn (zero_flat h3)
    refine ⟨_, _, μ', ?_, k1, k2, k3⟩
    simp [Instr.alloc, zeroValue, typeInfo, h1, h2, newVar, newRow]

def hBox (s : St) (e : TypeId) (x : Value) : Option (Value × St) := (hNew s x.cells.toList e).map fun (i, s') => (.pointer (some ⟨i, 0, none⟩), s')

theorem box_sound (h : R η w0 μ s w) {e : TypeId} {x x' v : Value} {s' : St} (hb : hBox s e x = some (v, s')) (hx : VR η μ x x') :
    ∃ v' w' μ', (Instr.box e x').run P w = .ok v' w' ∧ μ.le μ' ∧ R η w0 μ' s' w' ∧ VR η μ' v v' := by
  unfold hBox at hb
  simp only [Option.map_eq_some_iff, Prod.mk.injEq] at hb
  obtain ⟨⟨i, s1⟩, hn, rfl, rfl⟩ := hb
  obtain ⟨μ', k1, k2, k3, _⟩ := new_ptr h hn hx.cells
  refine ⟨_, _, μ', ?_, k1, k2, k3⟩
  simp [Instr.box, newVar, newRow]

/-! ### a slice literal -/
def rep (n : Nat) (l : List Value) : List Value :=
  match n with
  | 0 => []
  | n + 1 => l ++ rep n l

theorem rep_length (n : Nat) (l : List Value) : (rep n l).length = n * l.length := by
  induction n with
  | zero => simp [rep]
  | succ n ih => simp [rep, ih, Nat.succ_mul]; omega

theorem rep_get (n : Nat) (l : List Value) : ∀ j, j < n * l.length → (rep n l)[j]? = l[j % l.length]? := by
  induction n with
  | zero => intro j hj; simp at hj
  | succ n ih =>
    intro j hj
    simp only [rep]
    by_cases h : j < l.length
    · rw [List.getElem?_append_left h, Nat.mod_eq_of_lt h]
    · have hl : 0 < l.length := by
        rcases Nat.eq_zero_or_pos l.length with e | e
        · rw [e] at hj; simp at hj
        · exact e
      rw [List.getElem?_append_right (by omega), ih _ (by rw [Nat.succ_mul] at hj; omega)]
      congr 1
      rw [Nat.mod_eq_sub_mod (a := j) (by omega)]

theorem rep_eq (n : Nat) (z : Array Value) (k : Nat) (hk : k = z.size) : ((Array.range (n * k)).map (fun i => z[i % z.size]!)).toList = rep n z.toList := by
  subst hk
  apply List.ext_getElem?
  intro j
  by_cases hj : j < n * z.size
  · rw [rep_get n z.toList j (by simpa using hj)]
    have hz : 0 < z.size := by
      rcases Nat.eq_zero_or_pos z.size with e | e
      · rw [e] at hj; simp at hj
      · exact e
    have hm : j % z.size < z.size := Nat.mod_lt _ hz
    simp only [Array.toList_map, Array.toList_range, List.getElem?_map, List.getElem?_range hj, Option.map_some, Array.length_toList]
    rw [getElem!_pos z _ hm, List.getElem?_eq_getElem (by simpa using hm)]
    simp
  · rw [List.getElem?_eq_none (by simp; omega), List.getElem?_eq_none (by rw [rep_length]; simp; omega)]

theorem rep_vr {l l' : List Value} (h : VRs η μ l l') (n : Nat) : VRs η μ (rep n l) (rep n l') := by
  induction n with
  | zero => exact .nil
  | succ n ih => exact h.append ih

def hBuildSlice (P : Program) (s : St) (t : TypeId) (len : Nat) (ps : List (Nat × Value)) : Option (Value × St) :=
  match P.underlying t with
  | some (.slice e) => match P.info? e, zeroC P e with
    | some f, some z => bif Nat.ble (len * f.size) 16777216 && Nat.beq z.length f.size && Nat.blt 0 f.size && Nat.blt len UNK then
        match Instr.fill (fun i => some (i * f.size, f.size)) ⟨rep len z⟩ ps with
        | some cs => (hNew s cs.toList e).map fun (i, s') => (.slice (some ⟨i, 0, none⟩) len len, s')
        | none => none
      else none
    | _, _ => none
  | _ => none

theorem blt_lt {a b : Nat} (h : Nat.blt a b = true) : a < b := Nat.le_of_ble_eq_true h

theorem buildSlice_sound (h : R η w0 μ s w) {t : TypeId} {len : Nat} {ps ps' : List (Nat × Value)} {v : Value} {s' : St} (hb : hBuildSlice P s t len ps = some (v, s')) (hi : ps.map (·.1) = ps'.map (·.1)) (hv : VRs η μ (ps.map (·.2)) (ps'.map (·.2))) :
    ∃ v' w' μ', (Instr.buildSlice t len ps'.toArray).run P w = .ok v' w' ∧ μ.le μ' ∧ R η w0 μ' s' w' ∧ VR η μ' v v' := by
  unfold hBuildSlice at hb
  split at hb
  · rename_i e hu
    split at hb
    · rename_i f z hf hz
      cases hc : (Nat.ble (len * f.size) 16777216 && Nat.beq z.length f.size && Nat.blt 0 f.size && Nat.blt len UNK) with
      | false => rw [hc] at hb; simp at hb
      | true =>
        rw [hc] at hb
        simp only [cond_true] at hb
        simp only [Bool.and_eq_true] at hc
        obtain ⟨⟨⟨c1, c2⟩, c3⟩, c4⟩ := hc
        have c1 := ble_le c1
        have c2 := (beq_iff _ _).1 c2
        have c3 := blt_lt c3
        have c4 := blt_lt c4
        obtain ⟨f', z', h1, h2, rfl, h3⟩ := zeroC_some hz
        rw [hf] at h1; cases h1
        cases hfl : Instr.fill (fun i => some (i * f.size, f.size)) ⟨rep len z'.cells.toList⟩ ps with
        | none => rw [hfl] at hb; simp at hb
        | some cs =>
          rw [hfl] at hb
          simp only [Option.map_eq_some_iff, Prod.mk.injEq] at hb
          obtain ⟨⟨i, s1⟩, hn, rfl, rfl⟩ := hb
          obtain ⟨cs', k1, k2⟩ := fill_vr ps ps' _ _ hi hv (rep_vr (zero_flat h3) len) cs hfl
          obtain ⟨μ', m1, m2, _, m4⟩ := new_ptr h hn k2
          refine ⟨.slice (some ⟨w.heap.size, 0, none⟩) len len, w.alloc (.cells cs' e), μ', ?_, m1, m2, ?_⟩
          · have hsz : z'.cells.size = f.size := by simpa using c2
            have hrep : (Array.range (len * f.size)).map (fun i => z'.cells[i % z'.cells.size]!) = ⟨rep len z'.cells.toList⟩ := by
              apply Array.ext'
              rw [rep_eq len z'.cells f.size hsz.symm]
            by_cases h0 : len * f.size = 0
            · have hl0 : len = 0 := by
                rcases Nat.mul_eq_zero.1 h0 with h | h
                · exact h
                · omega
              subst hl0
              simp only [rep] at k1
              have e0 : (Array.range (0 * f.size)).map (fun i => (#[] : Array Value)[i % (#[] : Array Value).size]!) = ⟨[]⟩ := by simp
              simp only [Instr.buildSlice, run_underlying hu, sizeOf, typeInfo, Sem.run_bind, Sem.run_pure, run_program, Result.andThen_ok, hf, gt_iff_lt, show ¬ (2 ^ 24 < 0) by omega, if_false, Nat.zero_mul, if_true]
              simp only [Nat.zero_mul] at e0
              rw [e0]
              simp only [k1, newRow, Sem.run_bind, Sem.run_pure, run_newObj_alloc, Result.andThen_ok]
            · simp only [Instr.buildSlice, run_underlying hu, sizeOf, typeInfo, Sem.run_bind, Sem.run_pure, run_program, Result.andThen_ok, hf, gt_iff_lt, show ¬ (2 ^ 24 < len * f.size) by omega, if_false, h0, zeroValue, h2, hrep]
              simp only [k1, newRow, Sem.run_bind, Sem.run_pure, run_newObj_alloc, Result.andThen_ok]
          · have := VR.sliceK (η := η) (o := 0) (n := len) m4 c4
            simpa using this
    · cases hb
  · cases hb

end
end Go.Hx
