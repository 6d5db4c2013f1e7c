/- The executor's steps: append, len. -/
import Derived.Test.YtpjfmjemmphheadGreatDoorHx6
namespace Go.Hx
open Go Go.RowKit

section
variable {η : Env} {w0 : Base} {μ : Mu} {s : St} {w : World} {P : Program}

theorem run_append_zero (t ty e : TypeId) (i : TypeInfo) (ht : P.underlying t = some (.slice e)) (hi : P.info? e = some i) (b a : Option Addr) (n c c' : Nat) (hnc : n ≤ c) (w : World) :
    (Builtin.append_ #[t, t] ty #[.slice b n c, .slice a 0 c']).run P w = .ok (.slice b n c) w := by
  cases b with
  | none => cases a <;> simp [Builtin.append_, run_underlying ht, sizeOf, typeInfo, hi, Builtin.lenOf, hnc, Builtin.firstCells, loadCells, loadCellsFrom]
  | some b => cases a <;> simp [Builtin.append_, run_underlying ht, sizeOf, typeInfo, hi, Builtin.lenOf, hnc, Builtin.firstCells, loadCells, loadCellsFrom, storeCells]

theorem run_append_place (t ty e e' : TypeId) (i : TypeInfo) (ht : P.underlying t = some (.slice e)) (hi : P.info? e = some i) (g o sLen sCap : Nat) (cur : Array Value) (hg : w.heap[g]? = some (.cells cur e' (0, 0)))
    (a : Addr) (m c : Nat) (news : List Value) (hl : news.length = m * i.size) (hnews : ∀ (j : Nat) (u : Value), news[j]? = some u → w.cell? (a.add j) = some u) (h1 : ∀ u ∈ news, u.oneCell' = true)
    (hroom : sLen + m ≤ sCap) (hfit : o + sLen * i.size + news.length ≤ cur.size) :
    (Builtin.append_ #[t, t] ty #[.slice (some ⟨g, o, none⟩) sLen sCap, .slice (some a) m c]).run P w =
      .ok (.slice (some ⟨g, o, none⟩) (sLen + m) sCap) (w.setRow g (cur.toList.take (o + sLen * i.size) ++ news ++ cur.toList.drop (o + sLen * i.size + news.length)).toArray) := by
  have hf := run_firstCells_some (P := P) w i.size m a m c news hl hnews
  have hst := run_storeCells_at P g (o + sLen * i.size) e' news 0 cur w hg (by simpa using hfit) h1
  simp only [Nat.add_zero] at hst
  simp [Builtin.append_, run_underlying ht, sizeOf, typeInfo, hi, Builtin.lenOf, hroom, hf, add_plain', hst]

def rdS (s : St) (y : Option Addr) (n : Nat) : Option (List Value) :=
  match y with
  | some ⟨i, o, none⟩ => rd s i o n
  | _ => none

def hAppend (P : Program) (s : St) (t : TypeId) (x y : Value) : Option (Value × St) :=
  match P.underlying t, x, y with
  | some (.slice e), .slice xa n c, .slice ya m _ => match P.info? e, zeroC P e with
    | some f, some z => bif Nat.beq m 0 then (bif Nat.blt c UNK then (bif Nat.ble n c then some (x, s) else none) else some (x, s))
      else match rdS s ya (m * f.size) with
        | none => none
        | some news => bif news.all Value.oneCell' && Nat.ble ((n + m) * f.bytes) 140737488355328 && Nat.ble (n + m) 1000000000000 && Nat.beq z.length f.size && Nat.blt 0 f.size then
          match xa with
          | none => (hNew s news e).map fun (k, s') => (.slice (some ⟨k, 0, none⟩) m (UNK + f.size), s')
          | some ⟨i, o, none⟩ => bif Nat.blt c UNK then
              bif Nat.ble (n + m) c then
                match s.h.get i with
                | some (.row c0 e0) => bif Nat.ble (o + n * f.size + news.length) c0.length then
                    (Tr.set 64 s.h i (.row (c0.take (o + n * f.size) ++ news ++ c0.drop (o + n * f.size + news.length)) e0)).map fun t => (.slice xa (n + m) c, { s with h := t })
                  else none
                | _ => none
              else match rd s i o (n * f.size) with
                | some olds => (hNew s (olds ++ news) e).map fun (k, s') => (.slice (some ⟨k, 0, none⟩) (n + m) (UNK + f.size), s')
                | none => none
            else bif Nat.beq (UNK + f.size) c then
              match s.h.get i with
              | some (.row c0 e0) => bif Nat.beq e0 e && Nat.ble (o + n * f.size) c0.length && Nat.blt i s.next then
                  match Tr.set 64 s.h i .dead with
                  | some t => (hNew { s with h := t } ((c0.drop o).take (n * f.size) ++ news) e).map fun (k, s') => (.slice (some ⟨k, 0, none⟩) (n + m) (UNK + f.size), s')
                  | none => none
                else none
              | _ => none
            else none
          | _ => none
        else none
    | _, _ => none
  | _, _, _ => none

theorem zeroCells_size (z : Array Value) (n : Nat) : (Builtin.zeroCells z n).size = n * z.size := by simp [Builtin.zeroCells]

/-- A grown row: what is known of it stands at its head. -/
theorem grown_new {olds news olds' news' : List Value} (hs : R η w0 μ s w) (ho : VRs η μ olds olds') (hn : VRs η μ news news') {e : TypeId} {k : Nat} {s' : St} (hnew : hNew s (olds ++ news) e = some (k, s')) (rest : Array Value) :
    ∃ μ', μ.le μ' ∧ R η w0 μ' s' (w.drew.alloc (.cells (olds'.toArray ++ news'.toArray ++ rest) e)) ∧ μ' k = some ⟨w.heap.size, 0, olds'.length + news'.length + rest.size, undef⟩ := by
  have hv := ho.append hn
  obtain ⟨μ', h1, h2, h3⟩ := new_sound hs.drew hnew (cur := olds'.toArray ++ news'.toArray ++ rest) (by simp [ho.length, hn.length]) (fun j v hj => by
    obtain ⟨v', h4, h5⟩ := hv.get j v hj
    refine ⟨v', ?_, h5⟩
    have hlt : j < (olds' ++ news').length := by
      rcases Nat.lt_or_ge j (olds' ++ news').length with h' | h'
      · exact h'
      · rw [List.getElem?_eq_none h'] at h4; cases h4
    simp only [Nat.zero_add, List.append_toArray]
    rw [← Array.getElem?_toList, Array.toList_append, List.getElem?_append_left (by simpa using hlt)]
    simpa using h4)
  refine ⟨μ', h1, h2, ?_⟩
  rw [h3]
  simp [Nat.add_assoc]

theorem append_sound (h : R η w0 μ s w) {t ty : TypeId} {x y x' y' v : Value} {s' : St} (ha : hAppend P s t x y = some (v, s')) (hx : VR η μ x x') (hy : VR η μ y y') :
    ∃ v' w' μ', (Builtin.append_ #[t, t] ty #[x', y']).run P w = .ok v' w' ∧ μ.le μ' ∧ R η w0 μ' s' w' ∧ VR η μ' v v' := by
  unfold hAppend at ha
  split at ha
  case h_2 => cases ha
  rename_i e xa n c ya m yc hu
  split at ha
  case h_2 => cases ha
  rename_i f z hf hz
  obtain ⟨f', z', k1, k2, rfl, k3⟩ := zeroC_some hz
  rw [hf] at k1; cases k1
  cases hm0 : Nat.beq m 0 with
  | true =>
    rw [hm0] at ha
    simp only [cond_true] at ha
    have hm0 := (beq_iff _ _).1 hm0
    subst hm0
    obtain ⟨a', cy, rfl⟩ : ∃ a' cy, y' = .slice a' 0 cy := by
      cases hy with
      | snil => exact ⟨_, _, rfl⟩
      | sliceK => exact ⟨_, _, rfl⟩
      | sliceU => exact ⟨_, _, rfl⟩
      | sliceE => exact ⟨_, _, rfl⟩
    cases hck : Nat.blt c UNK with
    | true =>
      rw [hck] at ha
      simp only [cond_true] at ha
      cases hnc : Nat.ble n c with
      | false => rw [hnc] at ha; simp at ha
      | true =>
        rw [hnc] at ha
        simp only [cond_true, Option.some.injEq, Prod.mk.injEq] at ha
        obtain ⟨rfl, rfl⟩ := ha
        have hnc := ble_le hnc
        have hck := blt_lt hck
        cases xa with
        | none =>
          cases hx
          exact ⟨_, w, μ, run_append_zero t ty e f hu hf _ _ _ _ _ (Nat.le_refl _) w, Mu.le_refl _, h, .snil⟩
        | some ax =>
          rcases hx.slice_inv with ⟨i, o, p, he, hp, hc, rfl⟩ | ⟨_, _, _, z, _, _, hcz, _⟩ | ⟨z, _, hcz, _⟩
          · subst he
            exact ⟨_, w, μ, run_append_zero t ty e f hu hf _ _ _ _ _ hnc w, Mu.le_refl _, h, .sliceK hp hc⟩
          · exfalso; omega
          · exfalso; omega
    | false =>
      rw [hck] at ha
      simp only [cond_false, Option.some.injEq, Prod.mk.injEq] at ha
      obtain ⟨rfl, rfl⟩ := ha
      have hck' : ¬ c < UNK := fun hlt => by
        have : Nat.blt c UNK = true := Nat.ble_eq_true_of_le hlt
        rw [this] at hck; cases hck
      cases xa with
      | none => cases hx; exact absurd (by simp only [UNK]; omega) hck'
      | some ax =>
        have hx0 := hx
        rcases hx.slice_inv with ⟨_, _, _, _, _, hc, _⟩ | ⟨i, o, p, z, c', he, hcz, hp, hn, hm', hr, rfl⟩ | ⟨z, a'', hcz, hn0, rfl⟩
        · exact absurd hc hck'
        · exact ⟨_, w, μ, run_append_zero t ty e f hu hf _ _ _ _ _ hn w, Mu.le_refl _, h, hx0⟩
        · exact ⟨_, w, μ, run_append_zero t ty e f hu hf _ _ _ _ _ (Nat.le_refl _) w, Mu.le_refl _, h, hx0⟩
  | false =>
    rw [hm0] at ha
    simp only [cond_false] at ha
    have hm0 : m ≠ 0 := fun e => by rw [(beq_iff _ _).2 e] at hm0; cases hm0
    cases hrd : rdS s ya (m * f.size) with
    | none => rw [hrd] at ha; simp at ha
    | some news =>
      rw [hrd] at ha
      simp only at ha
      cases hck : (news.all Value.oneCell' && Nat.ble ((n + m) * f.bytes) 140737488355328 && Nat.ble (n + m) 1000000000000 && Nat.beq z'.cells.toList.length f.size && Nat.blt 0 f.size) with
      | false => rw [hck] at ha; simp at ha
      | true =>
        rw [hck] at ha
        simp only [cond_true] at ha
        simp only [Bool.and_eq_true] at hck
        obtain ⟨⟨⟨⟨b1, b2⟩, b3⟩, b4⟩, b5⟩ := hck
        have b2 := ble_le b2
        have b3 := ble_le b3
        have b4 : z'.cells.size = f.size := by simpa using (beq_iff _ _).1 b4
        have b5 := blt_lt b5
        -- the source
        obtain ⟨ay, cy, news', rfl, hnv, hnl, hnc⟩ : ∃ ay cy news', y' = .slice (some ay) m cy ∧ VRs η μ news news' ∧ news'.length = m * f.size ∧ ∀ (j : Nat) (u : Value), news'[j]? = some u → w.cell? (ay.add j) = some u := by
          unfold rdS at hrd
          split at hrd
          · rename_i i o
            obtain ⟨p, l', q1, q2, q3, q4, q5⟩ := rd_sound h hrd
            rcases hy.slice_inv with ⟨i2, o2, p2, he, hp, hc, rfl⟩ | ⟨i2, o2, p2, z, c', he, hcz, hp, hn, hm', hr, rfl⟩ | ⟨z, a'', hcz, hn0, rfl⟩
            · obtain ⟨rfl, rfl, _⟩ := Addr.mk.inj he
              rw [hp] at q1; cases q1
              exact ⟨_, _, l', rfl, q4, q3, q5⟩
            · obtain ⟨rfl, rfl, _⟩ := Addr.mk.inj he
              rw [hp] at q1; cases q1
              exact ⟨_, _, l', rfl, q4, q3, q5⟩
            · exact absurd hn0 hm0
          · cases hrd
        have hone := hnv.oneCell b1
        have hnl2 : news.length = m * f.size := by rw [hnv.length]; exact hnl
        have hfit : ∀ old, old < n + m → Builtin.nextslicecap (n + m) old * f.bytes ≤ 281474976710656 := fun old ho => growslice_fits ho b2
        have hzc : ∀ k, (Builtin.zeroCells z'.cells k).size = k * f.size := fun k => by rw [zeroCells_size, b4]
        -- the value of what has grown
        have hval : ∀ (μ' : Mu) (k : Nat) (cap : Nat), n + m ≤ cap → cap ≤ maxLen → μ' k = some ⟨w.heap.size, 0, (n + m) * f.size + (cap - (n + m)) * f.size, undef⟩ →
            VR η μ' (.slice (some ⟨k, 0, none⟩) (n + m) (UNK + f.size)) (.slice (some ⟨w.heap.size, 0, none⟩) (n + m) cap) := by
          intro μ' k cap h1 h2 h3
          have := VR.sliceU (η := η) (o := 0) (n := n + m) (z := f.size) (c' := cap) h3 h1 h2 (by simp only; rw [← Nat.add_mul, Nat.zero_add]; exact Nat.mul_le_mul_right _ (by omega))
          simpa using this
        cases xa with
        | none =>
          simp only [Option.map_eq_some_iff, Prod.mk.injEq] at ha
          obtain ⟨⟨k, s1⟩, hnw, rfl, rfl⟩ := ha
          cases hx
          have b2' : m * f.bytes ≤ 281474976710656 := by have h2 := b2; rw [Nat.zero_add] at h2; omega
          have hrun := run_append_nil (P := P) w t ty e f z' hu hf k2 ay m cy news' hnl hnc (by omega) (by omega) b2'
          obtain ⟨μ', m1, m2, m3⟩ := grown_new (olds := []) (olds' := []) h .nil hnv (by simpa using hnw) (Builtin.zeroCells z'.cells (grownCap w m 0 e - m))
          refine ⟨_, _, μ', hrun, m1, ?_, ?_⟩
          · have e1 : (([] : List Value).toArray ++ news'.toArray ++ Builtin.zeroCells z'.cells (grownCap w m 0 e - m)) = news'.toArray ++ Builtin.zeroCells z'.cells (grownCap w m 0 e - m) := by simp
            rw [e1] at m2
            exact m2
          · have h1 := grownCap_ge w m 0 e
            have h2 := grownCap_le_maxLen w m 0 e (by simp only [maxLen]; omega)
            have := hval μ' k (grownCap w m 0 e) (by simpa using h1) h2 (by rw [m3]; simp [hnl, hzc])
            simpa using this
        | some ax =>
          obtain ⟨i, o, sp⟩ := ax
          cases sp with
          | some _ => simp at ha
          | none =>
          simp only at ha
          cases hcu : Nat.blt c UNK with
          | true =>
            rw [hcu] at ha
            simp only [cond_true] at ha
            have hcu := blt_lt hcu
            obtain ⟨p, hp, rfl⟩ : ∃ p, μ i = some p ∧ x' = .slice (some ⟨p.blk, p.base + o, none⟩) n c := by
              rcases hx.slice_inv with ⟨i2, o2, p2, he, hp, hc, rfl⟩ | ⟨_, _, _, z, _, _, hcz, _⟩ | ⟨z, _, hcz, _⟩
              · obtain ⟨rfl, rfl, _⟩ := Addr.mk.inj he
                exact ⟨p2, hp, rfl⟩
              · exfalso; omega
              · exfalso; omega
            cases hroom : Nat.ble (n + m) c with
            | true =>
              rw [hroom] at ha
              simp only [cond_true] at ha
              have hroom := ble_le hroom
              split at ha
              · rename_i c0 e0 hg
                cases hb : Nat.ble (o + n * f.size + news.length) c0.length with
                | false => rw [hb] at ha; simp at ha
                | true =>
                  rw [hb] at ha
                  simp only [cond_true, Option.map_eq_some_iff, Prod.mk.injEq] at ha
                  obtain ⟨tr, htr, rfl, rfl⟩ := ha
                  have hle := ble_le hb
                  obtain ⟨p', cur, g1, g2, g3, g4, g5, g6⟩ := h.row i c0 e0 hg
                  rw [hp] at g1; cases g1
                  have hnn := hnv.length
                  have hrun := run_append_place (P := P) (w := w) t ty e e0 f hu hf p.blk (p.base + o) n c cur g2 ay m cy news' hnl hnc hone hroom (by omega)
                  refine ⟨_, _, μ, hrun, Mu.le_refl _, h.write (p := p) (cur' := _) hg htr hp g2 ?_ ?_ ?_ (w0.upd _ _ _ h.below g5 (off_setRow _ _ _)) (Nat.le_of_eq (off_setRow _ _ _).size.symm) (setRow_heap w p.blk cur _ e0 _ g2) (fun g hne => setRow_other w p.blk g _ hne), .sliceK hp hcu⟩
                  · have e1 : (cur.toList.take (p.base + o + n * f.size)).length = p.base + o + n * f.size := by rw [List.length_take, Array.length_toList]; omega
                    simp only [List.size_toArray, List.length_append, e1, List.length_drop, Array.length_toList]; omega
                  · simp only [List.length_append, List.length_take, List.length_drop]; omega
                  · have := written (b := p.base) (o := o + n * f.size) g6 hnv hle (by omega)
                    rw [Nat.add_assoc p.base o]
                    exact this
              · cases ha
            | false =>
              rw [hroom] at ha
              simp only [cond_false] at ha
              have hroom : ¬ n + m ≤ c := fun hle => by rw [Nat.ble_eq_true_of_le hle] at hroom; cases hroom
              split at ha
              · rename_i olds hold
                simp only [Option.map_eq_some_iff, Prod.mk.injEq] at ha
                obtain ⟨⟨k, s1⟩, hnw, rfl, rfl⟩ := ha
                obtain ⟨p', olds', q1, q2, q3, q4, q5⟩ := rd_sound h hold
                rw [hp] at q1; cases q1
                have hrun := run_append_grow (P := P) w t ty e f z' hu hf k2 ⟨p.blk, p.base + o, none⟩ n c olds' q3 q5 ay m cy news' hnl hnc (by omega) (by omega) (hfit c (by omega))
                obtain ⟨μ', m1, m2, m3⟩ := grown_new h q4 hnv hnw (Builtin.zeroCells z'.cells (grownCap w (n + m) c e - (n + m)))
                refine ⟨_, _, μ', hrun, m1, m2, hval μ' k _ (grownCap_ge _ _ _ _) (grownCap_le_maxLen _ _ _ _ (by simp only [maxLen]; omega)) ?_⟩
                rw [m3, q3, hnl, hzc, ← Nat.add_mul]
              · cases ha
          | false =>
            rw [hcu] at ha
            simp only [cond_false] at ha
            have hcu : ¬ c < UNK := fun hlt => by
              have : Nat.blt c UNK = true := Nat.ble_eq_true_of_le hlt
              rw [this] at hcu; cases hcu
            cases hcz : Nat.beq (UNK + f.size) c with
            | false => rw [hcz] at ha; simp at ha
            | true =>
              rw [hcz] at ha
              simp only [cond_true] at ha
              have hcz := (beq_iff _ _).1 hcz
              split at ha
              · rename_i c0 e0 hg
                cases hb : (Nat.beq e0 e && Nat.ble (o + n * f.size) c0.length && Nat.blt i s.next) with
                | false => rw [hb] at ha; simp at ha
                | true =>
                  rw [hb] at ha
                  simp only [cond_true] at ha
                  simp only [Bool.and_eq_true] at hb
                  obtain ⟨⟨d2, d3⟩, d4⟩ := hb
                  have d2 := (beq_iff _ _).1 d2
                  have d3 := ble_le d3
                  have d4 := blt_lt d4
                  subst d2
                  split at ha
                  · rename_i tr htr
                    simp only [Option.map_eq_some_iff, Prod.mk.injEq] at ha
                    obtain ⟨⟨k, s1⟩, hnw, rfl, rfl⟩ := ha
                    have hold : rd s i o (n * f.size) = some ((c0.drop o).take (n * f.size)) := by
                      simp only [rd, hg, Nat.ble_eq_true_of_le d3, cond_true]
                    obtain ⟨p, olds', q1, q2, q3, q4, q5⟩ := rd_sound h hold
                    obtain ⟨p', cur, g1, g2, g3, g4, g5, g6⟩ := h.row i c0 e0 hg
                    rw [q1] at g1; cases g1
                    -- it grows
                    have grows : ∀ (a' : Addr) (c' : Nat), c' < n + m → (∀ (j : Nat) (u : Value), olds'[j]? = some u → w.cell? (a'.add j) = some u) →
                        ∃ v' w' μ', (Builtin.append_ #[t, t] ty #[.slice (some a') n c', .slice (some ay) m cy]).run P w = .ok v' w' ∧ μ.le μ' ∧ R η w0 μ' s1 w' ∧ VR η μ' (.slice (some ⟨k, 0, none⟩) (n + m) (UNK + f.size)) v' := by
                      intro a' c' hlt hcells
                      have hrun := run_append_grow (P := P) w t ty e0 f z' hu hf k2 a' n c' olds' q3 hcells ay m cy news' hnl hnc hlt (by omega) (hfit c' hlt)
                      obtain ⟨μ', m1, m2, m3⟩ := grown_new (h.kill htr) q4 hnv hnw (Builtin.zeroCells z'.cells (grownCap w (n + m) c' e0 - (n + m)))
                      refine ⟨_, _, μ', hrun, m1, m2, hval μ' k _ (grownCap_ge _ _ _ _) (grownCap_le_maxLen _ _ _ _ (by simp only [maxLen]; omega)) ?_⟩
                      rw [m3, q3, hnl, hzc, ← Nat.add_mul]
                    rcases hx.slice_inv with ⟨_, _, _, _, _, hc, _⟩ | ⟨i2, o2, p2, zz, c', he, hcz2, hp, hn', hm', hr, rfl⟩ | ⟨zz, a'', hcz2, hn0, rfl⟩
                    · exact absurd hc hcu
                    · obtain ⟨rfl, rfl, _⟩ := Addr.mk.inj he
                      rw [q1] at hp; cases hp
                      obtain rfl : zz = f.size := by omega
                      by_cases hroom : n + m ≤ c'
                      · -- in place
                        have hnn := hnv.length
                        have hmul : (n + m) * f.size ≤ c' * f.size := Nat.mul_le_mul_right _ hroom
                        have hadd : (n + m) * f.size = n * f.size + m * f.size := Nat.add_mul _ _ _
                        have hrun := run_append_place (P := P) (w := w) t ty e0 e0 f hu hf p.blk (p.base + o) n c' cur g2 ay m cy news' hnl hnc hone hroom (by omega)
                        unfold hNew at hnw
                        simp only [Option.map_eq_some_iff, Prod.mk.injEq] at hnw
                        obtain ⟨u, hu2, rfl, rfl⟩ := hnw
                        have hlen : ((c0.drop o).take (n * f.size)).length = n * f.size := q2
                        refine ⟨_, _, _, hrun, Mu.put_le (h.fresh _ (Nat.le_refl _)), h.move (p := p) (o := o) (cur' := _) hg (by omega) htr hu2 q1 g2 ?_ (by omega) (by rw [List.length_append, hlen]; omega) ?_ (w0.upd _ _ _ h.below g5 (off_setRow _ _ _)) (Nat.le_of_eq (off_setRow _ _ _).size.symm) (setRow_heap w p.blk cur _ e0 _ g2) (fun g hne => setRow_other w p.blk g _ hne), ?_⟩
                        · have e1 : (cur.toList.take (p.base + o + n * f.size)).length = p.base + o + n * f.size := by rw [List.length_take, Array.length_toList]; omega
                          simp only [List.size_toArray, List.length_append, e1, List.length_drop, Array.length_toList]; omega
                        · intro j v hj
                          have htb : (cur.toList.take (p.base + o + n * f.size)).length = p.base + o + n * f.size := by rw [List.length_take, Array.length_toList]; omega
                          simp only [List.getElem?_toArray]
                          by_cases hjn : j < n * f.size
                          · rw [List.getElem?_append_left (by omega), List.getElem?_take, if_pos hjn, List.getElem?_drop] at hj
                            obtain ⟨v', r1, r2⟩ := g6 _ v hj
                            refine ⟨v', ?_, r2⟩
                            rw [List.append_assoc, List.getElem?_append_left (by omega), List.getElem?_take, if_pos (by omega)]
                            rw [Nat.add_assoc]
                            simpa using r1
                          · rw [List.getElem?_append_right (by omega), hlen] at hj
                            obtain ⟨v', r1, r2⟩ := hnv.get _ v hj
                            have hjl : j - n * f.size < news'.length := by
                              rcases Nat.lt_or_ge (j - n * f.size) news'.length with h' | h'
                              · exact h'
                              · rw [List.getElem?_eq_none h'] at r1; cases r1
                            refine ⟨v', ?_, r2⟩
                            rw [List.append_assoc, List.getElem?_append_right (by omega), List.getElem?_append_left (by omega), htb]
                            rw [show p.base + o + j - (p.base + o + n * f.size) = j - n * f.size by omega]
                            exact r1
                        · have := VR.sliceU (η := η) (μ := μ.put s.next ⟨p.blk, p.base + o, p.room - o, undef⟩) (i := s.next) (o := 0) (n := n + m) (z := f.size) (c' := c') (Mu.put_same _ _ _) hroom hm' (by simp only; omega)
                          simpa using this
                      · exact grows _ c' (by omega) q5
                    · have hn00 : n = 0 := hn0
                      subst hn00
                      have hol : olds' = [] := List.eq_nil_of_length_eq_zero (by simpa using q3)
                      exact grows a'' 0 (by omega) (fun j u hj => by rw [hol] at hj; simp at hj)
                  · cases ha
              · cases ha

def hLen (P : Program) (s : St) (t : TypeId) (x : Value) : Option Value :=
  match P.underlying t, x with
  | some (.slice _), .slice _ n _ => some (.int .i64 n)
  | some (.array n _), _ => some (.int .i64 n)
  | some .string, .string b => some (.int .i64 b.size)
  | some (.map _ _), .map none => some (.int .i64 0)
  | some (.map _ _), .map (some i) => match s.h.get i with
    | some (.map es _) => some (.int .i64 es.length)
    | _ => none
  | _, _ => none

theorem len_sound (h : R η w0 μ s w) {t ty : TypeId} {x x' v : Value} (hl : hLen P s t x = some v) (hf : flatN 0 v = true) (hx : VR η μ x x') :
    (Builtin.len_ #[t] ty #[x']).run P w = .ok v w ∧ VR η μ v v := by
  refine ⟨?_, flat_self 0 _ hf⟩
  unfold hLen at hl
  split at hl
  · rename_i e a n c hu
    simp only [Option.some.injEq] at hl
    subst hl
    cases hx <;> simp [Builtin.len_, run_underlying hu, goInt]
  · rename_i n e hu
    simp only [Option.some.injEq] at hl
    subst hl
    simp [Builtin.len_, run_underlying hu, goInt]
  · rename_i b hu
    simp only [Option.some.injEq] at hl
    subst hl
    cases hx
    simp [Builtin.len_, run_underlying hu, goInt]
  · rename_i k e hu
    simp only [Option.some.injEq] at hl
    subst hl
    cases hx
    simp [Builtin.len_, run_underlying hu, goInt]
  · rename_i k e i hu
    split at hl
    · rename_i es k' hg
      simp only [Option.some.injEq] at hl
      subst hl
      cases hx with
      | map hp =>
        rename_i p
        obtain ⟨p', es', h1, h2, h3, h4⟩ := h.map i es k' hg
        rw [hp] at h1; cases h1
        have he : es'.size = es.length := by rw [h4.1]; simp
        have hgo : (getObj p.blk).run P w = .ok (.map es' k') w := by
          simp only [getObj, Sem.run, h2]
        simp [Builtin.len_, run_underlying hu, goInt, hgo, he]
    · cases hl
  · cases hl

end
end Go.Hx
