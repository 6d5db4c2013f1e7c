/- MachineApplies: the executor: slices of a map lent out, arguments as frozen memory, functions of one object. Conditions: none. -/
import Derived.Test.YtpjfmjemmphheacDoorE8
import GoSem.ClaimJoined
set_option linter.all false
set_option linter.unusedVariables false
set_option linter.unusedSimpArgs false
namespace Go.Hx
open Go Go.RowKit

/-- Many blocks are held fast; of one of them an object speaks. -/
def Base.hold (β : Base) (w : World) (i b : Nat) (H : Nat → Prop) (hb : H b) (hH : ∀ g, H g → g < w.heap.size) : Base where
  ok := fun w' => β.ok w' ∧ w.heap.size ≤ w'.heap.size ∧ ∀ g, H g → w'.heap[g]? = w.heap[g]?
  wr := fun g => β.wr g ∧ ¬ H g
  lk := fun j g => β.lk j g ∨ (j = i ∧ g = b)
  fok := fun g => β.fok g ∧ ¬ H g
  wfok := fun g h => ⟨β.wfok g h.1, h.2⟩
  garbage := fun a c h k => ⟨β.garbage a c h.1 k, Nat.le_trans h.2.1 k.size, fun g hg => (k.block g (Nat.lt_of_lt_of_le (hH g hg) h.2.1)).trans (h.2.2 g hg)⟩
  upd := fun a c g h hg k => ⟨β.upd a c g h.1 hg.1 k, Nat.le_trans h.2.1 (Nat.le_of_eq k.size.symm), fun x hx => (k.block x (fun e => hg.2 (e ▸ hx))).trans (h.2.2 x hx)⟩
  fresh := fun a g h hg => ⟨β.fresh a g h.1 hg, fun e => by have := hH g e; have := h.2.1; omega⟩
  lapart := fun j g h k => h.elim (fun h => β.lapart j g h k.1) (fun h => k.2 (h.2 ▸ hb))
  lold := fun a j g h k => k.elim (β.lold a j g h.1) (fun e => by rw [e.2]; exact Nat.lt_of_lt_of_le (hH b hb) h.2.1)
  lkok := fun a c j g h k hg => hg.elim (β.lkok a c j g h.1 k.1) (fun e => by rw [e.2]; exact (k.2.2 b hb).trans (h.2.2 b hb).symm)

section
variable {P : Program} {w0 : Base} {μ ν : Mu} {s s2 s3 : St} {w w' : World}

/-- What a map holds besides the slice that is lent. -/
def rest (p : Place) (b : Nat) : Nat → Prop := fun g => p.own g ∧ g ≠ b

/-- The slice at a key. -/
theorem R.slice_at (h : R w0 μ s w) {i z : Nat} {es : List (Int × List Value)} {n : Int} {cs : List Value} (hi : s.h.get i = some (.dmap es z)) (hlk : lookI es n = some cs) (hne : cs ≠ []) :
    ∃ p b o len c cur e, μ i = some p ∧ len * z = cs.length ∧ len ≤ c ∧ c < UNK ∧ p.own p.blk ∧ p.own b ∧ b ≠ p.blk ∧ (∀ g, p.own g → g < w.heap.size) ∧ w.heap[b]? = some (.cells cur e (0, 0)) ∧ o + cs.length ≤ cur.size ∧
      FRs μ.fz cs ((cur.toList.drop o).take cs.length) ∧ ∃ es' k, w.heap[p.blk]? = some (.map es' k) ∧ DmR μ z p w es es'.toList ∧ (∀ g, p.own g → w0.wr g) ∧
      ∃ j e', ixI es n 0 = some j ∧ es[j]? = some (n, cs) ∧ es'.toList[j]? = some e' ∧ e'.val = .slice (some ⟨b, o, none⟩) len c ∧ ∀ d, ∃ j', Instr.findNow (.int d) (.int .i64 n) es'.toList 0 = some (some (j', e'.val)) := by
  obtain ⟨p, es', k, h1, h2, h3, h4, h5, h6⟩ := h.dmap _ _ _ hi
  obtain ⟨j, hj1, hj2⟩ := lookI_some hlk
  obtain ⟨e', n1, n2, n3⟩ := h5.2.1 _ _ hj2
  rcases n3 with ⟨_, _, n3, _⟩ | ⟨b, o, len, c, cur, e, g1, g2, g3, g4, g5, g6, g7, g8, g9⟩
  · exact absurd n3 hne
  have hK : KeysR es es'.toList := ⟨h5.1, fun j e hj => let ⟨e', a, b, _⟩ := h5.2.1 j e hj; ⟨e', a, b⟩⟩
  refine ⟨p, b, o, len, c, cur, e, h1, g2, g8, g9, h3, g6, g7, h4, g3, g4, g5, es', k, h2, h5, h6, j, e', hj1, hj2, n1, g1, fun d => ?_⟩
  obtain ⟨r', k1, k2⟩ := find_ix (n := n) (d := d) es es'.toList 0 hK
  rw [hj1] at k2
  cases r' with
  | none => exact k2.elim
  | some r' =>
    obtain ⟨j', v'⟩ := r'
    obtain ⟨rfl, _, e2, m1, rfl⟩ := k2
    rw [Nat.sub_zero] at m1
    rw [m1] at n1; cases n1
    exact ⟨_, k1⟩

/-- It is lent. -/
theorem R.lend (h : R w0 μ s w) {i z : Nat} {es : List (Int × List Value)} {n : Int} {cs : List Value} (hi : s.h.get i = some (.dmap es z)) {p : Place} {b o len c : Nat} {cur : Array Value} {e : TypeId}
    (hp : μ i = some p) (hc : c < UNK) (hpb : p.own p.blk) (hb : p.own b) (hbp : b ≠ p.blk) (hlt : ∀ g, p.own g → g < w.heap.size) (hblk : w.heap[b]? = some (.cells cur e (0, 0))) (ho : o + cs.length ≤ cur.size)
    (hcs : FRs μ.fz cs ((cur.toList.drop o).take cs.length)) {es' : Array MapEntry} {k : Nat} (hm : w.heap[p.blk]? = some (.map es' k)) (hwr : ∀ g, p.own g → w0.wr g)
    {v : Value} (hv : v = .slice (some ⟨b, o, none⟩) len c) (hf : ∀ d, ∃ j', Instr.findNow (.int d) (.int .i64 n) es'.toList 0 = some (some (j', v)))
    {t1 : Tr HObj} (ht1 : Tr.set 64 s.h i (.kmap n (.slice (some ⟨s.next, 0, none⟩) len c)) = some t1) (ht2 : Tr.set 64 t1 s.next (.row true cs e) = some s2.h) (e2 : s2.next = s.next + 1) (e3 : s2.ng = s.ng) :
    R (w0.hold w i p.blk (rest p b) ⟨hpb, Ne.symm hbp⟩ (fun g hg => hlt g hg.1)) (μ.put s.next ⟨b, o, cur.size - o, nobd⟩) s2 w := by
  have hfr := h.fresh _ (Nat.le_refl s.next)
  have hle : μ.le (μ.put s.next ⟨b, o, cur.size - o, nobd⟩) := Mu.put_le hfr
  have hin : i ≠ s.next := fun e => by rw [e, hfr] at hp; cases hp
  have g1 := Tr.get_set _ _ _ _ _ ht1
  have g2 := Tr.get_set _ _ _ _ _ ht2
  have cases3 : ∀ j x, s2.h.get j = some x → (j = s.next ∧ x = .row true cs e) ∨ (j = i ∧ x = .kmap n (.slice (some ⟨s.next, 0, none⟩) len c)) ∨ (j ≠ s.next ∧ j ≠ i ∧ s.h.get j = some x) := fun j x hj => by
    rw [g2] at hj
    by_cases hjn : j = s.next
    · rw [if_pos hjn] at hj; cases hj; exact .inl ⟨hjn, rfl⟩
    · rw [if_neg hjn, g1] at hj
      by_cases hji : j = i
      · rw [if_pos hji] at hj; cases hj; exact .inr (.inl ⟨hji, rfl⟩)
      · rw [if_neg hji] at hj; exact .inr (.inr ⟨hjn, hji, hj⟩)
  have old : ∀ j q, j ≠ s.next → (μ.put s.next ⟨b, o, cur.size - o, nobd⟩) j = some q → μ j = some q := fun j q hj hq => by rwa [Mu.put_other hj] at hq
  have new : ∀ q, (μ.put s.next ⟨b, o, cur.size - o, nobd⟩) s.next = some q → q = ⟨b, o, cur.size - o, nobd⟩ := fun q hq => by rw [Mu.put_same] at hq; exact (Option.some.inj hq).symm
  have apart : ∀ j x q, j ≠ i → s.h.get j = some x → μ j = some q → ∀ g, own x q g → ¬ p.own g := fun j x q hji hj hq g hg => h.dis j i x _ q p hji hj hi hq hp g hg
  refine ⟨⟨h.below, Nat.le_refl _, fun _ _ => rfl⟩, fun j hj => ?_, fun j x hj hd => ?_, fun a d x y q r had ha hd hq hr g hga => ?_, h.fz, fun g O j x q hO hj hq hg => ?_, fun g O hO => ⟨h.fzo g O hO, fun hg => h.fzd g O i _ p hO hi hp hg.1⟩, fun g hg => ?_⟩
  · rw [e2] at hj
    rw [Mu.put_other (by omega)]; exact h.fresh j (by omega)
  · rcases cases3 j x hj with ⟨rfl, rfl⟩ | ⟨rfl, rfl⟩ | ⟨hjn, hji, hj⟩
    · refine ⟨_, Mu.put_same _ _ _, ⟨cur, hblk, by show o + (cur.size - o) = _; omega, by show cs.length ≤ cur.size - o; omega, ?_⟩, fun g hg => ?_⟩
      · exact list_csr (op := true) (n := cs.length) (as_cr (op := true) rfl (hcs.mono fun _ _ h => h))
      · cases hg
        exact ⟨hwr _ hb, fun hg => hg.2 rfl⟩
    · refine ⟨p, Mu.put_eq hfr _ _ hp, ⟨es', k, .inr ⟨rfl, rfl⟩, hm, fun d => ?_⟩, fun g hg => hg.elim⟩
      obtain ⟨j', hj'⟩ := hf d
      refine ⟨j', v, hj', ?_⟩
      rw [hv]
      have := VR.sliceK (μ := μ.put s.next ⟨b, o, cur.size - o, nobd⟩) (i := s.next) (o := 0) (n := len) (c := c) (Mu.put_same _ _ _) hc
      exact this
    · obtain ⟨q, q1, q2, q3⟩ := h.obj j x hj hd
      exact ⟨q, Mu.put_eq hfr _ _ q1, (q2.mono hle).still (w0 := w0) (β := w0.hold w i p.blk (rest p b) ⟨hpb, Ne.symm hbp⟩ (fun g hg => hlt g hg.1)) (fun _ h => .inl h) (Nat.le_refl _) (fun _ _ => rfl), fun g hg => ⟨q3 g hg, fun hr => apart j x q hji hj q1 g hg hr.1⟩⟩
  · rcases cases3 a x ha with ⟨rfl, rfl⟩ | ⟨rfl, rfl⟩ | ⟨han, hai, ha⟩
    · have := new _ hq
      subst this
      have hga : g = b := hga
      subst hga
      rcases cases3 d y hd with ⟨rfl, rfl⟩ | ⟨rfl, rfl⟩ | ⟨hdn, hdi, hd⟩
      · exact absurd rfl had
      · exact id
      · exact fun hgd => apart d y r hdi hd (old _ _ hdn hr) _ hgd hb
    · exact hga.elim
    · rcases cases3 d y hd with ⟨rfl, rfl⟩ | ⟨rfl, rfl⟩ | ⟨hdn, hdi, hd⟩
      · have := new _ hr
        subst this
        intro hgd
        have hgd : g = b := hgd
        subst hgd
        exact apart a x q hai ha (old _ _ han hq) _ hga hb
      · exact id
      · exact h.dis a d x y q r had ha hd (old _ _ han hq) (old _ _ hdn hr) g hga
  · rcases cases3 j x hj with ⟨rfl, rfl⟩ | ⟨rfl, rfl⟩ | ⟨hjn, hji, hj⟩
    · have := new _ hq
      subst this
      have hg : g = b := hg
      subst hg
      exact h.fzd _ O i _ p hO hi hp hb
    · exact hg
    · exact h.fzd g O j x q hO hj (old _ _ hjn hq) hg
  · rw [e3] at hg
    obtain ⟨q, q1, q2⟩ := h.gl g hg
    exact ⟨q, Mu.put_eq hfr _ _ q1, q2⟩

/-- It comes back. -/
theorem R.reclaim {i z k : Nat} {es : List (Int × List Value)} {n : Int} {cs cs2 : List Value} {p : Place} {b o len c : Nat} {cur : Array Value} {e : TypeId} {w1 : World} {μ1 : Mu} {es1 : List MapEntry} (hd1 : DmR μ1 z p w1 es es1) (hz : 0 < z) (hl1 : len * z = cs.length) (hcs2 : cs2.length = cs.length) (hne : cs ≠ [])
    {hH1 : rest p b p.blk} {hH2 : ∀ g, rest p b g → g < w1.heap.size} (hpb : p.own p.blk) (hb : p.own b) (hbp : b ≠ p.blk) (hlt : ∀ g, p.own g → g < w1.heap.size) {es' : Array MapEntry} (hes : es1 = es'.toList) {kk : Nat} (hm : w1.heap[p.blk]? = some (.map es' kk)) (hwr : ∀ g, p.own g → w0.wr g)
    {j : Nat} {e' : MapEntry} (hix : ixI es n 0 = some j) (hj : es[j]? = some (n, cs)) (he' : es1[j]? = some e') (hev : e'.val = .slice (some ⟨b, o, none⟩) len c) (hlc : len ≤ c) (hc : c < UNK)
    (h : R (w0.hold w1 i p.blk (rest p b) hH1 hH2) ν s2 w) (hle : ∀ g O, μ1.fz g = some O → ν.fz g = some O)
    (hi : s2.h.get i = none ∨ s2.h.get i = some .dead) {p' : Place} (hp : ν i = some p') (hsim : p.sim p') {q : Place} (hq : ν k = some q) (hqs : (⟨b, o, cur.size - o, nobd⟩ : Place).sim q) (hk : s2.h.get k = some (.row true cs2 e)) (hki : k ≠ i) (hin : i < s2.next)
    {t1 : Tr HObj} (ht1 : Tr.set 64 s2.h k .dead = some t1) (ht2 : Tr.set 64 t1 i (.dmap (updI es n cs2) z) = some s3.h) (e2 : s3.next = s2.next) (e3 : s3.ng = s2.ng) :
    ν.le (ν.put i { p' with own := p.own }) ∧ R w0 (ν.put i { p' with own := p.own }) s3 w := by
  have hsim' : p'.sim { p' with own := p.own } := ⟨rfl, rfl, rfl⟩
  have hle2 : ν.le (ν.put i { p' with own := p.own }) := Mu.put_sim hp hsim'
  have hpbk := hsim.blk
  have g1 := Tr.get_set _ _ _ _ _ ht1
  have g2 := Tr.get_set _ _ _ _ _ ht2
  have cases3 : ∀ j x, s3.h.get j = some x → (j = i ∧ x = .dmap (updI es n cs2) z) ∨ (j = k ∧ x = .dead) ∨ (j ≠ k ∧ j ≠ i ∧ s2.h.get j = some x) := fun j x hj => by
    rw [g2] at hj
    by_cases hji : j = i
    · rw [if_pos hji] at hj; cases hj; exact .inl ⟨hji, rfl⟩
    · rw [if_neg hji, g1] at hj
      by_cases hjk : j = k
      · rw [if_pos hjk] at hj; cases hj; exact .inr (.inl ⟨hjk, rfl⟩)
      · rw [if_neg hjk] at hj; exact .inr (.inr ⟨hjk, hji, hj⟩)
  have old : ∀ j q, j ≠ i → (ν.put i { p' with own := p.own }) j = some q → ν j = some q := fun j q hj hq => by rwa [Mu.put_other hj] at hq
  have new : ∀ q, (ν.put i { p' with own := p.own }) i = some q → q = { p' with own := p.own } := fun q hq => by rw [Mu.put_same] at hq; exact (Option.some.inj hq).symm
  have held : ∀ g, rest p b g → w.heap[g]? = w1.heap[g]? := h.below.2.2
  obtain ⟨q0, cur2, k1, k2, k3, k4, k5, k6⟩ := h.row _ _ _ _ hk
  rw [hq] at k1; cases k1
  have hqb : q.blk = b := hqs.blk
  have hqo : q.base = o := hqs.base
  have ownk : ∀ j x r, j ≠ k → s2.h.get j = some x → ν j = some r → ∀ g, own x r g → g ≠ b := fun j x r hjk hj hr g hg e => h.dis j k x _ r q hjk hj hk hr hq g hg (by rw [e]; exact hqb.symm)
  have apart : ∀ j x r, j ≠ k → s2.h.get j = some x → ν j = some r → ∀ g, own x r g → ¬ p.own g := fun j x r hjk hj hr g hg hg' => (h.own_free hj hr hg).2 ⟨hg', ownk j x r hjk hj hr g hg⟩
  have hjn : j < es.length := by
    rcases Nat.lt_or_ge j es.length with h | h
    · exact h
    · rw [List.getElem?_eq_none h] at hj; cases hj
  have hup : updI es n cs2 = es.set j (n, cs2) := by unfold updI; rw [hix]
  have hcs2e : cs2 ≠ [] := fun e => hne (List.eq_nil_of_length_eq_zero (by rw [← hcs2, e]; rfl))
  refine ⟨hle2, h.below.1, fun j' hj' => ?_, fun j' x hj' hd => ?_, fun a d x y r1 r2 had ha hd hr1 hr2 g hga => ?_, h.fz, fun g O j' x r hO hj' hr hg => ?_, fun g O hO => (h.fzo g O hO).1, fun g hg => ?_⟩
  · rw [e2] at hj'
    rw [Mu.put_other (by omega)]; exact h.fresh j' hj'
  · rcases cases3 j' x hj' with ⟨rfl, rfl⟩ | ⟨rfl, rfl⟩ | ⟨hjk, hji, hj'⟩
    · refine ⟨_, Mu.put_same _ _ _, ⟨es', kk, ?_, ?_, fun g hg => Nat.lt_of_lt_of_le (hlt g hg) h.below.2.1, ?_⟩, fun g hg => hwr g hg⟩
      · show w.heap[p'.blk]? = _
        rw [hpbk, held _ hH1]; exact hm
      · show p.own p'.blk
        rw [hpbk]; exact hpb
      · rw [← hes, hup]
        refine ⟨by rw [List.length_set]; exact hd1.1, fun m x hm' => ?_, fun a1 a2 f1 f2 x y hne' hx hy hxn hyn hf1 hf2 => ?_⟩
        · by_cases hmj : m = j
          · subst hmj
            rw [List.getElem?_set, if_pos rfl, if_pos hjn] at hm'
            cases hm'
            obtain ⟨e0, n1, n2, n3⟩ := hd1.2.1 _ _ hj
            rw [he'] at n1; cases n1
            refine ⟨e', he', n2, .inr ⟨b, o, len, c, cur2, e, hev, by rw [hl1, hcs2], by rw [← hqb]; exact k2, ?_, ?_, hb, ?_, hlc, hc⟩⟩
            · rw [hqo] at k3
              show o + cs2.length ≤ cur2.size
              omega
            · rw [hqo] at k6
              have := (csr_crs (b := o) (o := 0) (n := cs2.length) k6 (by omega)).2
              simp only [List.drop_zero, List.take_length, Nat.add_zero] at this
              exact this
            · show b ≠ p'.blk
              rw [hpbk]; exact hbp
          · rw [List.getElem?_set, if_neg (Ne.symm hmj)] at hm'
            obtain ⟨e0, n1, n2, n3⟩ := hd1.2.1 _ _ hm'
            refine ⟨e0, n1, n2, ?_⟩
            rcases n3 with n3 | ⟨b', o', len', c', cur', ee, f1, f2, f3, f4, f5, f6, f7, f8⟩
            · exact .inl n3
            · by_cases hx0 : x.2 = []
              · have h0 : len' = 0 := by
                  rw [hx0] at f2
                  exact (Nat.mul_eq_zero.1 f2).resolve_right (by omega)
                exact .inl ⟨_, c', hx0, by rw [f1, h0]⟩
              · have hbb : b' ≠ b := by
                  intro e4
                  refine hd1.2.2 m j e0 e' x (n, cs) hmj hm' hj hx0 hne n1 he' ?_
                  rw [f1, hev, e4]; rfl
                exact .inr ⟨b', o', len', c', cur', ee, f1, f2, (held _ ⟨f6, hbb⟩).trans f3, f4, f5.mono (fun g O h => hle g O h), f6, by show b' ≠ p'.blk; rw [hpbk]; exact f7, f8⟩
        · have back : ∀ (m : Nat) (x : Int × List Value), (es.set j (n, cs2))[m]? = some x → x.2 ≠ [] → ∃ x0, es[m]? = some x0 ∧ x0.2 ≠ [] := fun m x hx hxn => by
            by_cases hmj : m = j
            · subst hmj; exact ⟨_, hj, hne⟩
            · rw [List.getElem?_set, if_neg (Ne.symm hmj)] at hx
              exact ⟨x, hx, hxn⟩
          obtain ⟨x0, m1, m2⟩ := back _ _ hx hxn
          obtain ⟨y0, m3, m4⟩ := back _ _ hy hyn
          exact hd1.2.2 _ _ _ _ _ _ hne' m1 m3 m2 m4 hf1 hf2
    · exact absurd rfl hd
    · obtain ⟨r, r1, r2, r3⟩ := h.obj j' x hj' hd
      exact ⟨r, by rw [Mu.put_other hji]; exact r1, (r2.mono hle2).still (w0 := w0.hold w1 i p.blk (rest p b) hH1 hH2) (β := w0) (fun g h => h.elim id (fun e => absurd e.1 hji)) (Nat.le_refl _) (fun _ _ => rfl), fun g hg => (r3 g hg).1⟩
  · rcases cases3 a x ha with ⟨rfl, rfl⟩ | ⟨rfl, rfl⟩ | ⟨hak, hai, ha⟩
    · have := new _ hr1
      subst this
      rcases cases3 d y hd with ⟨rfl, rfl⟩ | ⟨rfl, rfl⟩ | ⟨hdk, hdi, hd⟩
      · exact absurd rfl had
      · exact id
      · exact fun hgd => apart d y r2 hdk hd (old _ _ hdi hr2) g hgd hga
    · exact hga.elim
    · rcases cases3 d y hd with ⟨rfl, rfl⟩ | ⟨rfl, rfl⟩ | ⟨hdk, hdi, hd⟩
      · have := new _ hr2
        subst this
        exact fun hgd => apart a x r1 hak ha (old _ _ hai hr1) g hga hgd
      · exact id
      · exact h.dis a d x y r1 r2 had ha hd (old _ _ hai hr1) (old _ _ hdi hr2) g hga
  · rcases cases3 j' x hj' with ⟨rfl, rfl⟩ | ⟨rfl, rfl⟩ | ⟨hjk, hji, hj'⟩
    · have := new _ hr
      subst this
      have hg : p.own g := hg
      by_cases hgb : g = b
      · subst hgb
        exact h.fzd _ O k _ q hO hk hq hqb.symm
      · exact (h.fzo g O hO).2 ⟨hg, hgb⟩
    · exact hg
    · exact h.fzd g O j' x r hO hj' (old _ _ hji hr) hg
  · rw [e3] at hg
    obtain ⟨r, r1, r2, r3⟩ := h.gl g hg
    by_cases hgi : g = i
    · subst hgi
      rw [hp] at r1; cases r1
      exact ⟨_, Mu.put_same _ _ _, r2, r3⟩
    · exact ⟨r, by rw [Mu.put_other hgi]; exact r1, r2, r3⟩

/-- A slice of a map is lent to a piece of code, which writes into it. -/
theorem Ex.lend {n0 : Nat} {l : List Code} {s s3 : St} {f f2 : HF} {i z : Nat} {es : List (Int × List Value)} {n : Int} {cs cs2 : List Value} (hi : s.h.get i = some (.dmap es z)) (hz : 0 < z) (hlk : lookI es n = some cs) (hne : cs ≠ []) (hcs2 : cs2.length = cs.length) (hn0 : n0 ≤ s.next + 1)
    {sl : TypeId → Nat → Nat → St} {sr : TypeId → St}
    (hl : ∀ e len c, ∃ t1, Tr.set 64 s.h i (.kmap n (.slice (some ⟨s.next, 0, none⟩) len c)) = some t1 ∧ Tr.set 64 t1 s.next (.row true cs e) = some (sl e len c).h ∧ (sl e len c).next = s.next + 1 ∧ (sl e len c).ng = s.ng)
    (run : ∀ e len c, len * z = cs.length → len ≤ c → c < UNK → Ex P (s.next + 1) l (sl e len c) f (fun x s' f' => x = .normal ∧ s' = sr e ∧ f' = f2))
    (hr : ∀ e, ((sr e).h.get i = none ∨ (sr e).h.get i = some .dead) ∧ (sr e).h.get s.next = some (.row true cs2 e) ∧ s.next < (sr e).next ∧ ∃ t1, Tr.set 64 (sr e).h s.next .dead = some t1 ∧ Tr.set 64 t1 i (.dmap (updI es n cs2) z) = some s3.h ∧ s3.next = (sr e).next ∧ s3.ng = (sr e).ng) :
    Ex P n0 l s f (fun x s' f' => x = .normal ∧ s' = s3 ∧ f' = f2) := by
  intro w0 μ w a hR hA
  obtain ⟨p, b, o, len, c, cur, e, h1, h2, h3, h4, h5, h6, h7, h8, h9, h10, h11, es', k, h12, h13, h14, j, e', h15, h16, h17, h18, h19⟩ := hR.slice_at hi hlk hne
  obtain ⟨t1, l1, l2, l3, l4⟩ := hl e len c
  have L := hR.lend (s2 := sl e len c) hi h1 h4 h5 h6 h7 h8 h9 h10 h11 h12 h14 h18 h19 l1 l2 l3 l4
  have hfr := hR.fresh _ (Nat.le_refl s.next)
  have hlt : i < s.next := by
    rcases Nat.lt_or_ge i s.next with h | h
    · exact h
    · rw [hR.fresh i h] at h1; cases h1
  have hle : μ.le (μ.put s.next ⟨b, o, cur.size - o, nobd⟩) := Mu.put_le hfr
  refine wpl_mono (fun ee a' w' ⟨x, s', f', m1, ⟨m2, m3, m4⟩, ν, m5, m6, m7⟩ => ?_) _ _ _ (run e len c h2 h3 h4 _ _ w a L (hA.mono hle))
  subst m1 m2 m3 m4
  obtain ⟨p', q1, q2⟩ := m5.pl i p (by omega) (Mu.put_eq hfr _ _ h1)
  obtain ⟨q, q3, q4⟩ := m5.pl s.next _ (by omega) (Mu.put_same _ _ _)
  obtain ⟨r1, r2, r3, t2, r4, r5, r6, r7⟩ := hr e
  obtain ⟨z1, z2⟩ := R.reclaim (s3 := s3) h13 hz h2 hcs2 hne h5 h6 h7 h8 rfl h12 h14 h15 h16 h17 h18 h3 h4 m6 (fun g O hO => m5.fz g O hO) r1 q1 q2 q3 q4 r2 (by omega) (by omega) r4 r5 r6 r7
  exact ⟨.normal, s3, f', rfl, ⟨rfl, rfl, rfl⟩, _, ((hle.leN n0).trans (m5.mono hn0)).trans (z1.leN n0), z2, m7.mono z1⟩
end
end Go.Hx

namespace Go.Hx
open Go Go.RowKit

inductive Kd where
  | b
  | i (k : IntKind)
  | s (t : TypeId)

def kdFs (P : Program) (rc : TypeId → Option (List Kd)) : Nat → List Field → Option (List Kd)
  | _, [] => some []
  | o, f :: fs => bif Nat.beq f.offset o then match rc f.type with
      | some l => bif Nat.beq (P.cellsOf f.type) l.length then (kdFs P rc (o + l.length) fs).map (l ++ ·) else none
      | none => none
    else none

def kdOf (P : Program) : Nat → TypeId → Option (List Kd)
  | 0, _ => none
  | d + 1, t => match P.underlying t with
    | some .bool => some [.b]
    | some (.int k) => some [.i k]
    | some (.slice _) => some [.s t]
    | some (.struct fs) => match kdFs P (kdOf P d) 0 fs.toList with
      | some l => bif Nat.beq (P.cellsOf t) l.length then some l else none
      | none => none
    | some (.array n e) => match kdOf P d e with
      | some l => bif Nat.beq (P.cellsOf e) l.length && Nat.beq (P.cellsOf t) (n * l.length) && Nat.blt 0 l.length then some (List.replicate n l).flatten else none
      | none => none
    | _ => none

section
variable {H : Type} {enc : TypeId × Value → H} {P : Program} {W : World} {base : Nat} {sp : Nat → Bool} {held : Bool}

/-- Not more than can be reached. -/
def small (P : Program) (t : TypeId) (d : DataW H) : Prop := ∀ n ∈ d.weights P t, n ≤ reachBytes

def KdAt (enc : TypeId × Value → H) (P : Program) (W : World) (base : Nat) (sp : Nat → Bool) (held : Bool) (k : Kd) (u : Value) : Prop :=
  match k with
  | .b => ∃ c, u = .bool c
  | .i k => ∃ n, u = .int k n
  | .s t => ∃ fuel d ps, DataW.trod enc P W base sp held fuel t [u] = some (d, ps) ∧ small P t d

theorem mapM_get {α β : Type} {f : α → Option β} : ∀ {l : List α} {r : List β}, l.mapM f = some r → r.length = l.length ∧ ∀ (i : Nat) (x : α), l[i]? = some x → ∃ y, r[i]? = some y ∧ f x = some y := by
  intro l
  induction l with
  | nil => intro r h; simp at h; subst h; exact ⟨rfl, fun i x hi => by simp at hi⟩
  | cons a l ih =>
    intro r h
    simp only [List.mapM_cons, Option.bind_eq_bind, Option.bind_eq_some_iff] at h
    obtain ⟨y, hy, r', hr', h⟩ := h
    cases h
    obtain ⟨h1, h2⟩ := ih hr'
    refine ⟨by simp [h1], fun i x hi => ?_⟩
    cases i with
    | zero => simp at hi; subst hi; exact ⟨y, rfl, hy⟩
    | succ i => simpa using h2 i x (by simpa using hi)

def KdOK (enc : TypeId × Value → H) (P : Program) (W : World) (base : Nat) (sp : Nat → Bool) (held : Bool) (kd : List Kd) (cs : List Value) : Prop :=
  cs.length = kd.length ∧ ∀ (j : Nat) (k : Kd) (u : Value), kd[j]? = some k → cs[j]? = some u → KdAt enc P W base sp held k u

theorem KdOK.append {a b : List Kd} {x y : List Value} (h1 : KdOK enc P W base sp held a x) (h2 : KdOK enc P W base sp held b y) : KdOK enc P W base sp held (a ++ b) (x ++ y) := by
  refine ⟨by simp [h1.1, h2.1], fun j k u hk hu => ?_⟩
  have := h1.1
  by_cases hj : j < a.length
  · rw [List.getElem?_append_left hj] at hk
    rw [List.getElem?_append_left (by omega)] at hu
    exact h1.2 j k u hk hu
  · rw [List.getElem?_append_right (by omega)] at hk
    rw [List.getElem?_append_right (by omega), this] at hu
    exact h2.2 _ k u hk hu

theorem mem_each {ts : List TypeId} {ds : List (DataW H)} {j : Nat} {t : TypeId} {d : DataW H} (ht : ts[j]? = some t) (hd : ds[j]? = some d) {n : Nat} (hn : n ∈ d.weights P t) : n ∈ DataW.weightsEach P ts ds := by
  induction ts generalizing ds j with
  | nil => simp at ht
  | cons t0 ts ih =>
    cases ds with
    | nil => simp at hd
    | cons d0 ds =>
      simp only [DataW.weightsEach, List.mem_append]
      cases j with
      | zero => simp at ht hd; subst ht; subst hd; exact .inl hn
      | succ j => exact .inr (ih (by simpa using ht) (by simpa using hd))

theorem mem_all {e : TypeId} {ds : List (DataW H)} {j : Nat} {d : DataW H} (hd : ds[j]? = some d) {n : Nat} (hn : n ∈ d.weights P e) : n ∈ DataW.weightsAll P e ds := by
  induction ds generalizing j with
  | nil => simp at hd
  | cons d0 ds ih =>
    simp only [DataW.weightsAll, List.mem_append]
    cases j with
    | zero => simp at hd; subst hd; exact .inl hn
    | succ j => exact .inr (ih (by simpa using hd))

theorem kdFs_ok {D fuel : Nat} {cs : List Value} (ih : ∀ (t : TypeId) (cs : List Value) (x : DataW H × List MemPlace) (kd : List Kd), kdOf P D t = some kd → DataW.trod enc P W base sp held fuel t cs = some x → small P t x.1 → KdOK enc P W base sp held kd cs) :
    ∀ (fs : List Field) (o : Nat) (l : List Kd) (r : List (DataW H × List MemPlace)), kdFs P (kdOf P D) o fs = some l →
      fs.mapM (fun f => DataW.trod enc P W base sp held fuel f.type ((cs.drop f.offset).take (P.cellsOf f.type))) = some r → (∀ (i : Nat) (f : Field) (y : DataW H × List MemPlace), fs[i]? = some f → r[i]? = some y → small P f.type y.1) →
      KdOK enc P W base sp held l ((cs.drop o).take l.length) := by
  intro fs
  induction fs with
  | nil => intro o l r h _ _; cases h; exact ⟨by simp, fun j k u hk => by simp at hk⟩
  | cons f fs ihf =>
    intro o l r h hr hs
    simp only [kdFs] at h
    have h2 := bif_some h
    clear h
    obtain ⟨ho, h⟩ := h2
    rw [beq_iff] at ho
    subst ho
    split at h
    · rename_i lf hlf
      have h2 := bif_some h
      clear h
      obtain ⟨hc, h⟩ := h2
      rw [beq_iff] at hc
      simp only [Option.map_eq_some_iff] at h
      obtain ⟨l', hl', rfl⟩ := h
      simp only [List.mapM_cons, Option.bind_eq_bind, Option.bind_eq_some_iff] at hr
      obtain ⟨y, hy, r', hr', h⟩ := hr
      cases h
      have k1 := ih f.type _ y lf hlf hy (hs 0 f y rfl rfl)
      have k2 := ihf _ l' r' hl' hr' (fun i g z hg hz => hs (i + 1) g z (by simpa using hg) (by simpa using hz))
      rw [hc] at k1
      have e1 : (cs.drop f.offset).take (lf ++ l').length = (cs.drop f.offset).take lf.length ++ (cs.drop (f.offset + lf.length)).take l'.length := by
        rw [List.length_append, List.take_add, List.drop_drop]
      rw [e1]
      exact k1.append k2
    · cases h

theorem rep_ok {z : Nat} {kd : List Kd} (hz : kd.length = z) {cs : List Value} : ∀ (m o : Nat), (∀ i, i < m → KdOK enc P W base sp held kd ((cs.drop (o + i * z)).take z)) → KdOK enc P W base sp held (List.replicate m kd).flatten ((cs.drop o).take (m * z)) := by
  intro m
  induction m with
  | zero => intro o _; simp; exact ⟨rfl, fun j k u hk => by simp at hk⟩
  | succ m ih =>
    intro o h
    have k1 := h 0 (by omega)
    rw [Nat.zero_mul, Nat.add_zero] at k1
    have k2 := ih (o + z) (fun i hi => by
      have := h (i + 1) (by omega)
      rwa [show o + (i + 1) * z = o + z + i * z by rw [Nat.add_mul]; omega] at this)
    have e1 : (cs.drop o).take ((m + 1) * z) = (cs.drop o).take z ++ (cs.drop (o + z)).take (m * z) := by
      rw [show (m + 1) * z = z + m * z by rw [Nat.add_mul]; omega, List.take_add, List.drop_drop]
    rw [e1, List.replicate_succ, List.flatten_cons]
    exact k1.append k2

theorem trod_kd : ∀ (D fuel : Nat) (t : TypeId) (cs : List Value) (x : DataW H × List MemPlace) (kd : List Kd), kdOf P D t = some kd → DataW.trod enc P W base sp held fuel t cs = some x → small P t x.1 → KdOK enc P W base sp held kd cs := by
  intro D
  induction D with
  | zero => intro fuel t cs x kd h; cases h
  | succ D ih =>
    intro fuel t cs x kd hk ht hs
    cases fuel with
    | zero => simp [DataW.trod] at ht
    | succ fuel =>
    have ht0 := ht
    simp only [kdOf] at hk
    unfold DataW.trod at ht
    split at hk
    · rename_i hu
      cases hk
      simp only [hu] at ht
      split at ht <;> simp_all
      exact ⟨rfl, fun j k u hk hu => by
        cases j with
        | zero => simp at hk hu; subst hk; subst hu; exact ⟨_, rfl⟩
        | succ j => simp at hk⟩
    · rename_i hu
      cases hk
      simp only [hu] at ht
      split at ht <;> simp_all
      obtain ⟨⟨e1, _⟩, _⟩ := ht
      subst_vars
      exact ⟨rfl, fun j k u hk hu => by
        cases j with
        | zero => simp at hk hu; subst hk; subst hu; exact ⟨_, rfl⟩
        | succ j => simp at hk⟩
    · rename_i e hu
      cases hk
      have hlen : ∃ u, cs = [u] := by
        simp only [hu] at ht
        split at ht <;> simp_all
      obtain ⟨u, rfl⟩ := hlen
      exact ⟨rfl, fun j k u' hk hu' => by
        cases j with
        | zero => simp at hk hu'; subst hk; subst hu'; exact ⟨_, _, _, ht0, hs⟩
        | succ j => simp at hk⟩
    · rename_i fs hu
      split at hk
      · rename_i l hl
        have hk2 := bif_some hk
        clear hk
        obtain ⟨hc, hk⟩ := hk2
        rw [beq_iff] at hc
        cases hk
        simp only [hu] at ht
        split at ht
        · rename_i hlen
          simp only [Option.map_eq_some_iff] at ht
          obtain ⟨r, hr, rfl⟩ := ht
          obtain ⟨hrl, hrg⟩ := mapM_get hr
          have := kdFs_ok (ih fuel) fs.toList 0 kd r hl hr (fun i f y hf hy n hn => hs n (by
            simp only [DataW.weights, hu]
            exact mem_each (j := i) (t := f.type) (d := y.1) (by simp [hf]) (by simp [hy]) hn))
          rw [List.drop_zero, List.take_of_length_le (by omega)] at this
          exact this
        · cases ht
      · cases hk
    · rename_i n e hu
      split at hk
      · rename_i l hl
        have hk2 := bif_some hk
        clear hk
        obtain ⟨hc, hk⟩ := hk2
        simp only [Bool.and_eq_true, beq_iff] at hc
        obtain ⟨⟨hc1, hc2⟩, hc3⟩ := hc
        cases hk
        simp only [hu] at ht
        split at ht
        · rename_i hlen
          simp only [Option.map_eq_some_iff] at ht
          obtain ⟨r, hr, rfl⟩ := ht
          obtain ⟨hrl, hrg⟩ := mapM_get hr
          rw [hc1] at hrg
          have := rep_ok (enc := enc) (P := P) (W := W) (base := base) (sp := sp) (held := held) (z := l.length) (kd := l) rfl (cs := cs) n 0 (fun i hi => by
            obtain ⟨y, hy1, hy2⟩ := hrg i i (by simp [hi])
            rw [Nat.zero_add]
            exact ih fuel e _ y l hl hy2 (fun m hm => hs m (by
              simp only [DataW.weights, hu]
              exact mem_all (j := i) (d := y.1) (by simp [hy1]) hm)))
          rw [List.drop_zero, List.take_of_length_le (by omega)] at this
          exact this
        · cases ht
      · cases hk
    · cases hk

theorem add_add (a : Addr) (m k : Nat) : (a.add m).add k = a.add (m + k) := by
  unfold Addr.add
  by_cases hk : k = 0
  · subst hk; simp
  · by_cases hm : m = 0
    · subst hm; simp [hk]
    · simp [hk, hm, Nat.add_assoc]

theorem cell_row {W : World} {a : Addr} {u : Value} (h : W.cell? a = some u) : a = ⟨a.block, a.off, none⟩ ∧ ∃ cur e fr, W.heap[a.block]? = some (.cells cur e fr) ∧ cur[a.off]? = some u := by
  unfold World.cell? at h
  split at h
  · rename_i c e fr hb
    split at h
    · cases h
    · rename_i hs
      obtain ⟨b, o, sp⟩ := a
      simp at hs
      subst hs
      exact ⟨rfl, c, e, fr, hb, h⟩
  · cases h
theorem add_row (b o j : Nat) : (⟨b, o, none⟩ : Addr).add j = ⟨b, o + j, none⟩ := by
  unfold Addr.add
  by_cases hj : j = 0
  · subst hj; simp
  · simp [hj]

/-- A slice: its elements, each of them such. -/
theorem trod_sl {D fuel : Nat} {t e : TypeId} {v : Value} {x : DataW H × List MemPlace} {kd : List Kd} (hu : P.underlying t = some (.slice e)) (hk : kdOf P D e = some kd) (hz : P.cellsOf e = kd.length) (hpos : 0 < kd.length) (ht : DataW.trod enc P W base sp held fuel t [v] = some x) (hs : small P t x.1) :
    ∃ a len cap, v = .slice a len cap ∧ len ≤ cap ∧ len * P.bytesOf e ≤ reachBytes ∧ (len ≠ 0 → ∃ b o cur et fr, a = some ⟨b, o, none⟩ ∧ W.heap[b]? = some (.cells cur et fr) ∧ o + len * kd.length ≤ cur.size ∧
      ∀ i, i < len → KdOK enc P W base sp held kd ((cur.toList.drop (o + i * kd.length)).take kd.length)) := by
  cases fuel with
  | zero => simp [DataW.trod] at ht
  | succ fuel =>
  unfold DataW.trod at ht
  simp only [hu] at ht
  split at ht
  all_goals try (exfalso; simp_all; done)
  · rename_i h1 h2
    simp at h2
    subst h2
    exact ⟨none, 0, 0, rfl, Nat.le_refl _, by simp, fun h => absurd rfl h⟩
  · rename_i e' a len cap he' h2
    obtain rfl : e = e' := by simpa using he'
    simp only [List.cons.injEq, and_true] at h2
    subst h2
    split at ht
    · rename_i hc
      obtain ⟨hc1, hc2, hc3⟩ := hc
      simp only [Option.bind_eq_some_iff, Option.map_eq_some_iff] at ht
      obtain ⟨r, hr, rest, hrest, rfl⟩ := ht
      obtain ⟨hrl, hrg⟩ := mapM_get hr
      simp only [List.length_range] at hrl
      have hw0 : (r.length + rest.length) * P.bytesOf e ≤ reachBytes := hs _ (by simp [DataW.weights, hu])
      have hel : ∀ i, i < len → ∃ cs, W.cells? base (a.add (i * kd.length)) kd.length = some cs ∧ KdOK enc P W base sp held kd cs := fun i hi => by
        obtain ⟨y, hy1, hy2⟩ := hrg i i (by simp [hi])
        simp only [Option.bind_eq_some_iff] at hy2
        obtain ⟨cs, hcs, hy3⟩ := hy2
        rw [hz] at hcs
        refine ⟨cs, hcs, trod_kd D fuel e cs y kd hk hy3 (fun n hn => hs n ?_)⟩
        simp only [DataW.weights, hu, List.mem_cons, List.mem_append]
        exact .inr (.inl (mem_all (j := i) (d := y.1) (by simp [hy1]) hn))
      have hcell : ∀ i, i < len → ∃ cs, KdOK enc P W base sp held kd cs ∧ ∀ k, k < kd.length → ∃ u, cs[k]? = some u ∧ W.cell? (a.add (i * kd.length + k)) = some u := fun i hi => by
        obtain ⟨cs, h1, h2⟩ := hel i hi
        unfold World.cells? at h1
        split at h1
        · obtain ⟨hl, hg⟩ := mapM_get h1
          refine ⟨cs, h2, fun k hkk => ?_⟩
          obtain ⟨u, hu1, hu2⟩ := hg k k (by simp [hkk])
          rw [add_add] at hu2
          exact ⟨u, hu1, hu2⟩
        · cases h1
      refine ⟨some a, len, cap, rfl, hc2, Nat.le_trans (Nat.mul_le_mul_right _ (by omega)) hw0, fun h0 => ?_⟩
      obtain ⟨cs0, _, hc0⟩ := hcell 0 (by omega)
      obtain ⟨u0, _, hu0⟩ := hc0 0 hpos
      have ha0 : a.add (0 * kd.length + 0) = a := by simp [Addr.add]
      rw [ha0] at hu0
      obtain ⟨hap, cur, et, fr, hb, _⟩ := cell_row hu0
      have hadd : ∀ j, a.add j = ⟨a.block, a.off + j, none⟩ := fun j => by rw [hap, add_row]
      have hcur : ∀ j u, W.cell? (a.add j) = some u → cur[a.off + j]? = some u := fun j u hj => by
        rw [hadd] at hj
        unfold World.cell? at hj
        simp only [hb] at hj
        exact hj
      have hlast : a.off + len * kd.length ≤ cur.size := by
        obtain ⟨cs, _, hcs⟩ := hcell (len - 1) (by omega)
        obtain ⟨u, _, hu⟩ := hcs (kd.length - 1) (by omega)
        have hlt := (Array.getElem?_eq_some_iff.1 (hcur _ _ hu)).1
        have h9 : (len - 1) * kd.length + kd.length = len * kd.length := by
          have := Nat.succ_mul (len - 1) kd.length
          rw [show (len - 1).succ = len by omega] at this
          omega
        omega
      refine ⟨a.block, a.off, cur, et, fr, by rw [← hap], hb, hlast, fun i hi => ?_⟩
      obtain ⟨cs, hk1, hcs⟩ := hcell i hi
      have : (cur.toList.drop (a.off + i * kd.length)).take kd.length = cs := by
        refine List.ext_getElem? fun k => ?_
        by_cases hkk : k < kd.length
        · obtain ⟨u, hu1, hu2⟩ := hcs k hkk
          have := hcur _ _ hu2
          rw [List.getElem?_take, if_pos hkk, List.getElem?_drop, hu1]
          rw [show a.off + i * kd.length + k = a.off + (i * kd.length + k) by omega]
          simpa using this
        · rw [List.getElem?_eq_none (by simp; omega), List.getElem?_eq_none (by rw [hk1.1]; omega)]
      rw [this]
      exact hk1
    · cases ht

/-! ### As frozen memory -/
theorem frs_append {fz : Nat → Option Obj} : ∀ {a b c d : List Value}, FRs fz a b → FRs fz c d → FRs fz (a ++ c) (b ++ d)
  | [], _, _, _, h, k => by cases h; exact k
  | _ :: _, _, _, _, h, k => by cases h with | cons h t => exact .cons h (frs_append t k)

theorem frz_of {fz : Nat → Option Obj} {α : Type} {ec : α → Value} {Good : α → Prop} {z : Nat} {L : List Value} : ∀ (len o : Nat), (∀ i, i < len → ∃ x, Good x ∧ FRs fz (ec x).cells.toList ((L.drop (o + i * z)).take z)) →
    ∃ l : List α, l.length = len ∧ (∀ x ∈ l, Good x) ∧ FRs fz (flatV (l.map ec)) ((L.drop o).take (len * z))
  | 0, o, _ => ⟨[], rfl, fun x hx => (by cases hx), by rw [Nat.zero_mul, List.take_zero]; exact .nil⟩
  | len + 1, o, h => by
    obtain ⟨x, h1, h2⟩ := h 0 (by omega)
    rw [Nat.zero_mul, Nat.add_zero] at h2
    obtain ⟨l, k1, k2, k3⟩ := frz_of (z := z) (L := L) len (o + z) (fun i hi => by
      have := h (i + 1) (by omega)
      rwa [show o + (i + 1) * z = o + z + i * z by rw [Nat.add_mul]; omega] at this)
    refine ⟨x :: l, by simp [k1], fun y hy => ?_, ?_⟩
    · rcases List.mem_cons.1 hy with rfl | hy
      · exact h1
      · exact k2 y hy
    · have e1 : (L.drop o).take ((len + 1) * z) = (L.drop o).take z ++ (L.drop (o + z)).take (len * z) := by
        rw [show (len + 1) * z = z + len * z by rw [Nat.add_mul]; omega, List.take_add, List.drop_drop]
      rw [e1]
      exact frs_append h2 k3

/-- All that stands is frozen. -/
def fzW (W : World) : Nat → Option Obj := fun b => W.heap[b]?

/-- A slice whose elements can be read. -/
theorem rd_sl {D : Nat} {t e : TypeId} {v : Value} {kd : List Kd} (hu : P.underlying t = some (.slice e)) (hk : kdOf P D e = some kd) (hz : P.cellsOf e = kd.length) (hpos : 0 < kd.length) {α : Type} {ec : α → Value} {Good : α → Prop} (hg : ∀ x, Good x → (ec x).cells.size = kd.length)
    (conv : ∀ cs, KdOK enc P W base sp held kd cs → ∃ x, Good x ∧ FRs (fzW W) (ec x).cells.toList cs) (h : KdAt enc P W base sp held (.s t) v) :
    ∃ l : List α, (∀ x ∈ l, Good x) ∧ FR (fzW W) (frz (l.map ec)) v ∧ l.length * P.bytesOf e ≤ reachBytes := by
  obtain ⟨fuel, d, ps, h1, h2⟩ := h
  obtain ⟨a, len, cap, rfl, h3, h4, h5⟩ := trod_sl hu hk hz hpos h1 h2
  by_cases h0 : len = 0
  · subst h0
    exact ⟨[], fun x hx => (by cases hx), .frz0, by simp⟩
  · obtain ⟨b, o, cur, et, fr, rfl, h6, h7, h8⟩ := h5 h0
    obtain ⟨l, k1, k2, k3⟩ := frz_of (fz := fzW W) (ec := ec) (Good := Good) (z := kd.length) (L := cur.toList) len o (fun i hi => conv _ (h8 i hi))
    refine ⟨l, k2, ?_, by rw [k1]; exact h4⟩
    have hl : (l.map ec).length = len := by rw [List.length_map, k1]
    have := FR.frz (fz := fzW W) (es := l.map ec) (b := b) (o := o) (z := kd.length) (c := cap) (cur := cur) (e := et) (fr := fr) h6 hpos (fun x hx => by
      obtain ⟨y, hy, rfl⟩ := List.mem_map.1 hx
      exact hg y (k2 y hy)) (by rw [hl]; exact h3) (by rw [hl]; exact h7) (by rw [hl]; exact k3)
    rw [hl] at this
    exact this

/-- Elements of truth values and integers alone. -/
def flatKd (kd : List Kd) : Bool := kd.all fun | .s _ => false | _ => true
theorem rd_flat {kd : List Kd} (h : flatKd kd = true) {cs : List Value} (hk : KdOK enc P W base sp held kd cs) : FRs (fzW W) cs cs := by
  have key : ∀ (cs : List Value), (∀ u ∈ cs, (∃ c, u = .bool c) ∨ ∃ k n, u = .int k n) → FRs (fzW W) cs cs := by
    intro cs
    induction cs with
    | nil => intro _; exact .nil
    | cons u cs ih =>
      intro hh
      refine .cons ?_ (ih fun x hx => hh x (List.mem_cons_of_mem _ hx))
      rcases hh u List.mem_cons_self with ⟨c, rfl⟩ | ⟨k, n, rfl⟩
      · exact .bool c
      · exact .int k n
  refine key cs fun u hu => ?_
  obtain ⟨j, hj⟩ := List.mem_iff_getElem?.1 hu
  have hlt : j < kd.length := by rw [← hk.1]; exact (List.getElem?_eq_some_iff.1 hj).1
  have hkj := List.getElem?_eq_getElem hlt
  have := hk.2 j _ u hkj hj
  have hf := List.all_eq_true.1 h _ (List.mem_of_getElem? hkj)
  generalize kd[j] = k at this hf
  cases k with
  | b => obtain ⟨c, rfl⟩ := this; exact .inl ⟨c, rfl⟩
  | i k => obtain ⟨n, rfl⟩ := this; exact .inr ⟨k, n, rfl⟩
  | s t => cases hf
/-- A slice of such. -/
theorem rd_fsl {D : Nat} {t e : TypeId} {v : Value} {kd : List Kd} (hu : P.underlying t = some (.slice e)) (hk : kdOf P D e = some kd) (hz : P.cellsOf e = kd.length) (hpos : 0 < kd.length) (hf : flatKd kd = true) (h : KdAt enc P W base sp held (.s t) v) :
    ∃ es : List Value, FR (fzW W) (frz es) v ∧ es.length * P.bytesOf e ≤ reachBytes := by
  obtain ⟨l, h1, h2, h3⟩ := rd_sl (ec := fun l => .agg ⟨l⟩) (Good := fun l => l.length = kd.length) hu hk hz hpos (fun x hx => by show x.toArray.size = _; simpa using hx) (fun cs hcs => ⟨cs, hcs.1, rd_flat hf hcs⟩) h
  exact ⟨l.map fun l => .agg ⟨l⟩, h2, by rw [List.length_map]; exact h3⟩

/-- The world at the beginning of a call: nothing but frozen memory. -/
theorem start_R : R (Base.of W) ⟨fun _ => none, fzW W⟩ St0 W where
  below := Below.refl _ _
  fresh := fun _ _ => rfl
  obj := fun i o hi _ => by
    have : (Tr.lf : Tr HObj).get i = some o := hi
    cases this
  dis := fun i j o o' p q _ hi => by
    have : (Tr.lf : Tr HObj).get i = some o := hi
    cases this
  fz := fun _ _ h => h
  fzd := fun b O i o p _ hi => by
    have : (Tr.lf : Tr HObj).get i = some o := hi
    cases this
  fzo := fun _ _ _ => trivial
  gl := fun g hg => absurd hg (Nat.not_lt_zero _)
end
end Go.Hx

namespace Go.Hx
open Go Go.RowKit

section
variable {P : Program} {w0 : Base} {μ ν : Mu} {s : St} {w : World}

/-- All that stands is held fast but for one block; what may be frozen is what is frozen, and what is new. -/
def Base.one (w : World) (fz : Nat → Option Obj) (b : Nat) (hb : b < w.heap.size) (hz : fz b = none) : Base where
  ok := fun w' => w'.os = w.os ∧ w'.tape = w.tape ∧ w'.output = w.output ∧ w.heap.size ≤ w'.heap.size ∧ ∀ i, i < w.heap.size → i ≠ b → w'.heap[i]? = w.heap[i]?
  wr := fun g => g = b ∨ w.heap.size ≤ g
  lk := fun _ _ => False
  fok := fun g => (∃ O, fz g = some O) ∨ w.heap.size ≤ g ∨ g = b
  wfok := fun _ h => h.elim (fun h => .inr (.inr h)) (fun h => .inr (.inl h))
  garbage := fun a c h k => ⟨k.os.trans h.1, k.tape.trans h.2.1, k.output.trans h.2.2.1, Nat.le_trans h.2.2.2.1 k.size, fun i hi hn => (k.block i (Nat.lt_of_lt_of_le hi h.2.2.2.1)).trans (h.2.2.2.2 i hi hn)⟩
  upd := fun a c g h hg k => ⟨k.os.trans h.1, k.tape.trans h.2.1, k.output.trans h.2.2.1, Nat.le_trans h.2.2.2.1 (Nat.le_of_eq k.size.symm), fun i hi hn => (k.block i (by
    rcases hg with rfl | hg
    · exact hn
    · omega)).trans (h.2.2.2.2 i hi hn)⟩
  fresh := fun a g h hg => .inr (Nat.le_trans h.2.2.2.1 hg)
  lapart := fun _ _ h => h.elim
  lold := fun _ _ _ _ h => h.elim
  lkok := fun _ _ _ _ _ _ h => h.elim

/-- A state of one object. -/
def oneS (c : List Value) (e : TypeId) : St := mkSt [(0, .row false c e)] 1 0
theorem oneS_get (c : List Value) (e : TypeId) (i : Nat) (o : HObj) (h : (oneS c e).h.get i = some o) : i = 0 ∧ o = .row false c e := by
  have h : (Tr.nd (some (HObj.row false c e)) .lf .lf).get i = some o := h
  rw [Tr.get_nd] at h
  by_cases hi : i = 0
  · rw [if_pos hi] at h; cases h; exact ⟨hi, rfl⟩
  · rw [if_neg hi] at h
    split at h <;> cases h

def onePl (p : Place) : Nat → Option Place := fun j => if j = 0 then some p else none

theorem csr_fr {c : List Value} (hc : c.all (idf 0) = true) {cur : Array Value} {b : Nat} (h : CsR false μ c cur b) (hfz : ∀ g O, μ.fz g = some O → ν.fz g = some O) : CsR false ν c cur b := fun j v hj => by
  obtain ⟨v', h1, h2⟩ := h j v hj
  exact ⟨v', h1, (FR.mono hfz (idf_fr (List.all_eq_true.1 hc v (List.mem_of_getElem? hj)) h2)).vr⟩

theorem one_R (h : R w0 μ s w) {i : Nat} {c : List Value} {e : TypeId} (hi : s.h.get i = some (.row false c e)) (hc : c.all (idf 0) = true) {p : Place} (hp : μ i = some p) (hb : p.blk < w.heap.size) (hz : μ.fz p.blk = none) :
    R (Base.one w μ.fz p.blk hb hz) ⟨onePl p, μ.fz⟩ (oneS c e) w where
  below := ⟨rfl, rfl, rfl, Nat.le_refl _, fun _ _ _ => rfl⟩
  fresh := fun j hj => by
    have hj : 1 ≤ j := hj
    show (if j = 0 then some p else none) = none
    rw [if_neg (by omega)]
  obj := fun j o hj _ => by
    obtain ⟨rfl, rfl⟩ := oneS_get c e j o hj
    obtain ⟨q, h1, ⟨cur, h2, h3, h4, h5⟩, h6⟩ := h.obj i _ hi (by simp)
    rw [hp] at h1; cases h1
    exact ⟨p, rfl, ⟨cur, h2, h3, h4, csr_fr hc h5 (fun _ _ h => h)⟩, fun g hg => .inl hg⟩
  dis := fun a b o o' p q hab ha hb' => by
    exact absurd ((oneS_get c e a o ha).1.trans (oneS_get c e b o' hb').1.symm) hab
  fz := h.fz
  fzd := fun b O j o q hO hj hq hg => by
    obtain ⟨rfl, rfl⟩ := oneS_get c e j o hj
    have hq : (if (0 : Nat) = 0 then some p else none) = some q := hq
    rw [if_pos rfl] at hq; cases hq
    have hg : b = p.blk := hg
    subst hg
    rw [hz] at hO; cases hO
  fzo := fun b O hO => .inl ⟨O, hO⟩
  gl := fun g hg => by cases hg

theorem one_back (h : R w0 μ s w) {i : Nat} {c c' : List Value} {e : TypeId} (hi : s.h.get i = some (.row false c e)) (hc' : c'.all (idf 0) = true) {p : Place} (hp : μ i = some p) {hb : p.blk < w.heap.size} {hz : μ.fz p.blk = none}
    {w' : World} (h' : R (Base.one w μ.fz p.blk hb hz) ν (oneS c' e) w') (hle : (⟨onePl p, μ.fz⟩ : Mu).le ν) {t : Tr HObj} {d : Nat} (ht : Tr.set d s.h i (.row false c' e) = some t) :
    μ.le ⟨μ.pl, ν.fz⟩ ∧ R w0 ⟨μ.pl, ν.fz⟩ { s with h := t } w' := by
  have hle2 : μ.le ⟨μ.pl, ν.fz⟩ := ⟨fun i p hp => ⟨p, hp, p.sim_refl⟩, hle.fz⟩
  have hg := Tr.get_set _ _ _ _ _ ht
  obtain ⟨q, q1, q2⟩ := hle.pl 0 p rfl
  obtain ⟨q', k1, ⟨cur, k2, k3, k4, k5⟩, k6⟩ := h'.obj 0 (.row false c' e) rfl (by simp)
  rw [q1] at k1; cases k1
  have hpb := q2.blk
  obtain ⟨b1, b2, b3, b4, b5⟩ := h'.below
  obtain ⟨p0, j1, _, j3⟩ := h.obj i _ hi (by simp)
  rw [hp] at j1; cases j1
  have hwr : w0.wr p.blk := j3 _ rfl
  have sub : ∀ j x, t.get j = some x → (j = i ∧ x = .row false c' e) ∨ (j ≠ i ∧ s.h.get j = some x) := fun j x hj => by
    rw [hg] at hj
    by_cases hji : j = i
    · rw [if_pos hji] at hj; cases hj; exact .inl ⟨hji, rfl⟩
    · rw [if_neg hji] at hj; exact .inr ⟨hji, hj⟩
  have apart : ∀ j x r, j ≠ i → s.h.get j = some x → μ j = some r → ∀ g, own x r g → g ≠ p.blk := fun j x r hji hj hr g hg' e1 => h.dis j i x _ r p hji hj hi hr hp g hg' e1
  have hok : w0.ok w' := by
    have o1 : w0.ok { w with heap := w.heap.setIfInBounds p.blk (.cells cur e (0, 0)) } := w0.upd _ _ _ h.below hwr ⟨rfl, rfl, rfl, by simp, fun k hk => by simp [Array.getElem?_setIfInBounds, Ne.symm hk]⟩
    refine w0.garbage _ _ o1 ⟨b1, b2, b3, by simpa using b4, fun k hk => ?_⟩
    have hk : k < w.heap.size := by simpa using hk
    by_cases hkb : k = p.blk
    · subst hkb
      rw [hpb] at k2
      rw [k2]
      simp [hb]
    · rw [b5 k hk hkb]
      simp [Array.getElem?_setIfInBounds, Ne.symm hkb]
  refine ⟨hle2, hok, h.fresh, fun j x hj hd => ?_, fun a b x y r1 r2 hab ha hb' hr1 hr2 g hga => ?_, h'.fz, fun b O j x r hO hj hr hg' => ?_, fun b O hO => ?_, h.gl⟩
  · rcases sub j x hj with ⟨rfl, rfl⟩ | ⟨hji, hj⟩
    · refine ⟨p, hp, ⟨cur, by rw [← hpb]; exact k2, by rw [← q2.base, ← q2.room]; exact k3, by rw [← q2.room]; exact k4, ?_⟩, fun g hg' => by cases hg'; exact hwr⟩
      rw [← q2.base]
      exact csr_fr hc' k5 (fun _ _ h => h)
    · obtain ⟨r, r1, r2, r3⟩ := h.obj j x hj hd
      refine ⟨r, r1, (r2.mono hle2).still (fun _ h => h) b4 (fun g hg' => ?_), r3⟩
      rcases hg' with hg' | hg'
      · exact b5 g (h.own_lt hj r1 hg') (apart j x r hji hj r1 g hg')
      · exact b5 g (w0.lold _ _ _ h.below hg') (fun e1 => w0.lapart _ _ hg' (by rw [e1]; exact hwr))
  · rcases sub a x ha with ⟨rfl, rfl⟩ | ⟨hai, ha⟩
    · rcases sub b y hb' with ⟨rfl, rfl⟩ | ⟨hbi, hb'⟩
      · exact absurd rfl hab
      · have hr1 : μ a = some r1 := hr1
        rw [hp] at hr1; cases hr1
        have hga : g = p.blk := hga
        exact fun hgb => apart b y r2 hbi hb' hr2 g hgb hga
    · rcases sub b y hb' with ⟨rfl, rfl⟩ | ⟨hbi, hb'⟩
      · have hr2 : μ b = some r2 := hr2
        rw [hp] at hr2; cases hr2
        exact fun hgb => apart a x r1 hai ha hr1 g hga hgb
      · exact h.dis a b x y r1 r2 hab ha hb' hr1 hr2 g hga
  · have own2 : own x r b → ∃ x0, s.h.get j = some x0 ∧ own x0 r b := fun hg' => by
      rcases sub j x hj with ⟨rfl, rfl⟩ | ⟨hji, hj⟩
      · exact ⟨_, hi, hg'⟩
      · exact ⟨x, hj, hg'⟩
    obtain ⟨x0, m1, m2⟩ := own2 hg'
    have hlt := h.own_lt m1 hr m2
    rcases h'.fzo b O hO with ⟨O', hO'⟩ | hge | rfl
    · exact h.fzd b O' j x0 r hO' m1 hr m2
    · have : w.heap.size ≤ b := hge
      omega
    · exact h'.fzd _ O 0 _ q hO rfl q1 hpb.symm
  · rcases h'.fzo b O hO with ⟨O', hO'⟩ | hge | rfl
    · exact h.fzo b O' hO'
    · exact w0.wfok b (w0.fresh w b h.below hge)
    · exact w0.wfok _ hwr

/-- A function that is shown at one object alone, wherever it is called. -/
theorem FnEx.frame1 {g : FuncId} {rest : List Value} {c c' : List Value} {v : Value} {e : TypeId} {d d' : Nat} (h : FnEx P g (.pointer (some ⟨0, 0, none⟩) :: rest) (oneS c e) (fun u t => u = v ∧ t = oneS c' e)) (hr : rest.all (idq d) = true) (hv : idq d' v = true)
    (hc : c.all (idf 0) = true) (hc' : c'.all (idf 0) = true) {i : Nat} (hi : s.h.get i = some (.row false c e)) {s' : St} (ht : Tr.set 64 s.h i (.row false c' e) = some s'.h) (e2 : s'.next = s.next) (e3 : s'.ng = s.ng) :
    FnEx P g (.pointer (some ⟨i, 0, none⟩) :: rest) s (fun u t => u = v ∧ t = s') := by
  intro w0 μ w args' hR hV
  obtain ⟨p, hp, _, _⟩ := hR.obj i _ hi (by simp)
  have hb : p.blk < w.heap.size := hR.own_lt hi hp rfl
  have hz : μ.fz p.blk = none := by
    cases hz : μ.fz p.blk with
    | none => rfl
    | some O => exact absurd rfl (hR.fzd _ O i _ p hz hi hp)
  cases hV with
  | cons hx hrest =>
    have hx' : VR ⟨onePl p, μ.fz⟩ (.pointer (some ⟨0, 0, none⟩)) _ := VR.ptr (μ := ⟨onePl p, μ.fz⟩) (i := 0) (o := 0) (p := p) rfl
    cases hx with
    | ptr hp' =>
      rw [hp] at hp'; cases hp'
      refine (h (Base.one w μ.fz p.blk hb hz) ⟨onePl p, μ.fz⟩ w _ (one_R hR hi hc hp hb hz) (.cons hx' (idqs_vr (μ := μ) (ν := ⟨onePl p, μ.fz⟩) (fun _ _ h => h) hr hrest))).mono fun e' w' ⟨u, t, v', ν, k1, k2, k3, k4, k5⟩ => ?_
      obtain ⟨rfl, rfl⟩ := k1
      obtain ⟨m1, m2⟩ := one_back hR hi hc' hp k4 k3 ht
      exact ⟨u, s', v', _, ⟨rfl, rfl⟩, k2, m1, m2.same rfl e2 e3, idq_vr (μ := ν) (ν := ⟨μ.pl, ν.fz⟩) (fun _ _ h => h) d' _ _ hv k5⟩

/-- Cells, other arguments, result, cells behind the call. -/
abbrev RRel := List Value → List Value → Value → List Value → Prop
def rowK (e : TypeId) (l : List (FuncId × RRel)) : HCall := fun g args s => match lookN l g, args with
  | some rel, .pointer (some ⟨i, o, none⟩) :: rest => match s.h.get i with
    | some (.row false c e') => match popO s with
      | some (v :: c', s1) =>
        bif Nat.beq o 0 && Nat.beq e' e && rest.all (idq 3) && c.all (idf 0) && c'.all (idf 0) && idq 3 v then
          match needP (rel c rest v c') s1 with
          | some s2 => (Tr.set 64 s.h i (.row false c' e)).map fun h => (v, { s2 with h := h })
          | none => none
        else none
      | _ => none
    | _ => none
  | _, _ => none
def RowOK (P : Program) (e : TypeId) (l : List (FuncId × RRel)) : Prop := ∀ g rel, (g, rel) ∈ l → ∀ c rest v c', rel c rest v c' → FnEx P g (.pointer (some ⟨0, 0, none⟩) :: rest) (oneS c e) (fun u t => u = v ∧ t = oneS c' e)
theorem rowK_ok {e : TypeId} {l : List (FuncId × RRel)} (h : RowOK P e l) : CallOK P (rowK e l) := by
  intro s s' g args v hc
  unfold rowK at hc
  split at hc
  · rename_i rel i o rest hrel
    split at hc
    · rename_i c e' hi
      split at hc
      · rename_i v1 c' s1 hp
        obtain ⟨hb, hc2⟩ := bif_some hc
        clear hc
        simp only [Bool.and_eq_true, beq_iff] at hb
        obtain ⟨⟨⟨⟨⟨rfl, rfl⟩, b3⟩, b4⟩, b5⟩, b6⟩ := hb
        obtain ⟨s2, hn, hc3⟩ : ∃ s2, needP (rel c rest v1 c') s1 = some s2 ∧ (Tr.set 64 s.h i (.row false c' e')).map (fun h => (v1, { s2 with h := h })) = some (v, s') := by
          split at hc2
          · rename_i s2 hn; exact ⟨s2, hn, hc2⟩
          · cases hc2
        simp only [Option.map_eq_some_iff, Prod.mk.injEq] at hc3
        obtain ⟨t, ht, rfl, rfl⟩ := hc3
        obtain ⟨k1, k2⟩ := needP_like hn
        have hl := (popO_like hp).trans k1
        refine ⟨St.sub_trans hl.sub ⟨[], rfl⟩, fun ok w0 μ w args' hR hV => ?_⟩
        have := (h g rel (lookN_mem hrel) c rest v1 c' (k2 fun p hp => ok p hp)).frame1 (s := s) (s' := { s with h := t }) b3 b6 b4 b5 hi ht rfl rfl
        refine (this w0 μ w args' hR hV).mono fun e w' ⟨u, t', v', ν, k3, k4, k5, k6, k7⟩ => ?_
        obtain ⟨rfl, rfl⟩ := k3
        exact ⟨v', ν, k4, k5, k6.same rfl hl.next hl.ng, k7⟩
      · cases hc
    · cases hc
  · cases hc
end
end Go.Hx
