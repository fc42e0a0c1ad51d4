/- Contracts of the functions that the law reaches. -/
import Derived.Test.YtgcglnaffdgpbaaGreatDoorWalkG
section
/- Contracts: the laws' marks. -/
namespace Go.Proofs
open Go.AX AG
variable {gl : Globs}
set_option maxRecDepth 10000
set_option linter.unusedSimpArgs false

theorem Buf.out {α : Type} {f : α → List AV} {sz : Nat} {L : List α} {out : AV} {τ : Store} (h : Buf sz (L.map f) out τ) (h0 : L ≠ []) : ∃ b c rest, out = .msl b 0 L.length c ∧ τ = [(b, .own ((L.map f).flatten ++ rest))] ∧ L.length ≤ c ∧ c * sz ≤ L.length * sz + rest.length := by
  rcases h with ⟨h1, _⟩ | ⟨b, c, rest, h1, h2, h3, h4, _⟩
  · exact absurd (List.map_eq_nil_iff.1 h1) h0
  · exact ⟨b, c, rest, by simpa using h1, h2, by simpa using h3, by simpa using h4⟩
theorem Buf.of {α : Type} {f : α → List AV} {sz : Nat} (hf : ∀ x, (f x).length = sz) {L : List α} {b c n : Nat} {rest : List AV} (hn : n = L.length) (h1 : L.length ≤ c) (h2 : c * sz ≤ L.length * sz + rest.length) : Buf sz (L.map f) (.msl b 0 n c) [(b, .own ((L.map f).flatten ++ rest))] := by
  subst hn
  exact .inr ⟨b, c, rest, by simp, rfl, by simpa using h1, by simpa using h2, Rows.map hf L⟩
theorem ed_cell {L : List Ed} {i : Nat} {e y : Ed} {j : Nat} {a : Int} {rest : List AV} (h : L[i]? = some e) (hj : j < 3) (hc : splice (eE e) j [.int a] = eE y) : splice ((L.map eE).flatten ++ rest) (i * 3 + j) [.int a] = ((L.set i y).map eE).flatten ++ rest := by
  have hlt : i < L.length := (List.getElem?_eq_some_iff.1 h).1
  rw [splice_app (by rw [flat_len (f := eE) (sz := 3) (fun _ => rfl)]; simp; omega), rows_cell (f := eE) (sz := 3) (fun _ => rfl) h (by simp; omega) hc]
theorem mark_set {es : List Ed} {k : Int} {i : Nat} (h : i < es.length) {x : Ed} (hx : x = ⟨k + 3 * i, k + 3 * i + 1, k + 3 * i + 2⟩) : (mkE k i ++ es.drop i).set i x = mkE k (i + 1) ++ es.drop (i + 1) := by
  rw [List.drop_eq_getElem_cons h, List.set_append_right _ _ (by rw [mkE_length]; omega), mkE_length, Nat.sub_self, List.set_cons_zero, mkE, hx]
  simp
theorem law_markEdgeS (es : List Ed) (out : AV) (τ : Store) (hB : Buf 3 (es.map eE) out τ) (hl : es.length ≤ 1048576) (k : Int) (hk : 0 ≤ k ∧ k ≤ 1125899906842624) :
    CallWp Tryz.prog gl 15 [out, .int k] τ fun r σ => r = .int (k + 3 * es.length) ∧ Buf 3 ((mkE k es.length).map eE) out σ := by
  refine callWp_of (cf := ⟨34, [0, 1, 4, 5, 9], [], []⟩) (rs := [.tmp 4]) Tryz.func15 rfl (by decide) rfl rfl (by simp) ?_
  simp only [go_sem, Nat.reduceBEq, Nat.reduceLT, Nat.reduceAdd, Nat.reduceMul, Nat.reduceSub, Nat.reduceLeDiff, decide_true, ne_eq, Nat.reduceEqDiff, not_false_eq_true, Classical.not_not, Int.lt_irrefl, false_implies]
  refine LoopWp.by (fun m ρ σ => ∃ i : Nat, Buf 3 ((mkE k i ++ es.drop i).map eE) out σ ∧ get ρ 0 = out ∧ get ρ 1 = .int (k + 3 * i) ∧ get ρ 5 = .int i ∧ i ≤ es.length ∧ m = es.length - i) es.length ?_ ?_
  · exact ⟨0, hB, rfl, by simp [AX.get], rfl, by omega, by omega⟩
  rintro m ρ σ ⟨i, hBi, g0, g1, g5, hi, rfl⟩
  have hL : (mkE k i ++ es.drop i).length = es.length := by rw [List.length_append, mkE_length, List.length_drop]; omega
  by_cases hlt : i < es.length
  · obtain ⟨b, c, rest, rfl, rfl, hc1, hc2⟩ := Buf.out hBi (by intro e; rw [e] at hL; simp at hL; omega)
    obtain ⟨e, he⟩ : ∃ e, (mkE k i ++ es.drop i)[i]? = some e := ⟨_, List.getElem?_eq_getElem (by omega)⟩
    have w0 := ed_cell (rest := rest) (y := ⟨k + 3 * i, e.le, e.to⟩) (j := 0) (a := k + 3 * i) he (by omega) rfl
    have e1 : ((mkE k i ++ es.drop i).set i ⟨k + 3 * i, e.le, e.to⟩)[i]? = some ⟨k + 3 * i, e.le, e.to⟩ := by rw [List.getElem?_set, if_pos rfl, if_pos (by omega)]
    have w1 := ed_cell (rest := rest) (y := ⟨k + 3 * i, k + 3 * i + 1, e.to⟩) (j := 1) (a := k + 3 * i + 1) e1 (by omega) rfl
    rw [List.set_set] at w1
    have e2 : ((mkE k i ++ es.drop i).set i ⟨k + 3 * i, k + 3 * i + 1, e.to⟩)[i]? = some ⟨k + 3 * i, k + 3 * i + 1, e.to⟩ := by rw [List.getElem?_set, if_pos rfl, if_pos (by omega)]
    have w2 := ed_cell (rest := rest) (y := ⟨k + 3 * i, k + 3 * i + 1, k + 3 * i + 1 + 1⟩) (j := 2) (a := k + 3 * i + 1 + 1) e2 (by omega) rfl
    have hm := mark_set (es := es) (k := k) hlt (x := ⟨k + 3 * i, k + 3 * i + 1, k + 3 * i + 1 + 1⟩) (by rw [show k + 3 * (i : Int) + 1 + 1 = k + 3 * i + 2 by omega])
    rw [List.set_set, hm] at w2
    have hL2 : (mkE k (i + 1) ++ es.drop (i + 1)).length = es.length := by rw [List.length_append, mkE_length, List.length_drop]; omega
    have hBn := Buf.of (f := eE) (sz := 3) (fun _ => rfl) (b := b) (c := c) (rest := rest) (L := mkE k (i + 1) ++ es.drop (i + 1)) hL2.symm (by omega) (by omega)
    have l0 : ((mkE k i ++ es.drop i).map eE).flatten.length = es.length * 3 := by rw [flat_len (f := eE) (sz := 3) (fun _ => rfl), hL]
    have l1 : (((mkE k i ++ es.drop i).set i ⟨k + 3 * i, e.le, e.to⟩).map eE).flatten.length = es.length * 3 := by rw [flat_len (f := eE) (sz := 3) (fun _ => rfl), List.length_set, hL]
    have l2 : (((mkE k i ++ es.drop i).set i ⟨k + 3 * i, k + 3 * i + 1, e.to⟩).map eE).flatten.length = es.length * 3 := by rw [flat_len (f := eE) (sz := 3) (fun _ => rfl), List.length_set, hL]
    rw [Nat.add_zero] at w0
    rw [hL] at g0 hBi hc1 hc2 ⊢
    generalize hM : ((mkE k (i + 1) ++ es.drop (i + 1)).map eE).flatten = C3 at *
    generalize (((mkE k i ++ es.drop i).set i ⟨k + 3 * i, k + 3 * i + 1, e.to⟩).map eE).flatten = C2 at *
    generalize (((mkE k i ++ es.drop i).set i ⟨k + 3 * i, e.le, e.to⟩).map eE).flatten = C1 at *
    generalize ((mkE k i ++ es.drop i).map eE).flatten = C0 at *
    simp only [go_sem, Nat.reduceBEq, Nat.reduceLT, Nat.reduceAdd, Nat.reduceMul, Nat.reduceSub, Nat.reduceLeDiff, decide_true, ne_eq, Nat.reduceEqDiff, not_false_eq_true, Classical.not_not, Int.lt_irrefl, false_implies, g0, g1, g5, w0, w1, w2, List.length_append, l0, l1, l2]
    refine ⟨fun _ => ⟨by omega, by omega, ⟨by omega, by omega⟩, by omega, by omega, ⟨by omega, by omega⟩, by omega, by omega, ⟨by omega, by omega⟩, ⟨by omega, by omega⟩, _, ?_, i + 1, hBn, rfl, ?_, rfl, by omega, rfl⟩, fun h => by omega⟩
    · omega
    · rw [show ((i + 1 : Nat) : Int) = (i : Int) + 1 by omega, show k + 3 * ((i : Int) + 1) = k + 3 * i + 1 + 1 + 1 by omega]; rfl
  · have : i = es.length := by omega
    subst this
    rw [List.drop_length, List.append_nil] at hBi
    simp only [go_sem, Nat.reduceBEq, Nat.reduceLT, Nat.reduceAdd, Nat.reduceMul, Nat.reduceSub, Nat.reduceLeDiff, decide_true, ne_eq, Nat.reduceEqDiff, not_false_eq_true, Classical.not_not, Int.lt_irrefl, false_implies, g0, g1, g5]
    refine hBi.len rfl ?_
    simp only [go_sem, Nat.reduceBEq, Nat.reduceLT, Nat.reduceAdd, Nat.reduceMul, Nat.reduceSub, Nat.reduceLeDiff, decide_true, ne_eq, Nat.reduceEqDiff, not_false_eq_true, Classical.not_not, Int.lt_irrefl, false_implies, g0, g1, g5, List.length_map, mkE_length]
    exact hBi
theorem law_heldEdgeS (n : Nat) (hl : n ≤ 1048576) (k : Int) (hk : 0 ≤ k ∧ k ≤ 1125899906842624) : Pure Tryz.prog gl 16 [edges (mkE k n), .int k] (.int (k + 3 * n)) := by
  refine callWp_of (cf := ⟨40, [0, 1, 4, 5, 9, 18, 27, 36], [], []⟩) (rs := [.tmp 4]) Tryz.func16 rfl (by decide) rfl rfl (by simp) ?_
  simp only [go_sem, Nat.reduceBEq, Nat.reduceLT, Nat.reduceAdd, Nat.reduceMul, Nat.reduceSub, Nat.reduceLeDiff, decide_true, ne_eq, Nat.reduceEqDiff, not_false_eq_true, Classical.not_not, Int.lt_irrefl, false_implies]
  have hL := mkE_length k n
  refine LoopWp.by (fun m ρ σ => ∃ i : Nat, get ρ 0 = edges (mkE k n) ∧ get ρ 1 = .int (k + 3 * i) ∧ get ρ 5 = .int i ∧ i ≤ n ∧ σ = [] ∧ m = n - i) n ?_ ?_
  · exact ⟨0, rfl, by simp [AX.get], rfl, by omega, rfl, by omega⟩
  rintro m ρ σ ⟨i, g0, g1, g5, hi, rfl, rfl⟩
  by_cases hlt : i < n
  · have he := mkE_get k hlt
    simp only [go_sem, Nat.reduceBEq, Nat.reduceLT, Nat.reduceAdd, Nat.reduceMul, Nat.reduceSub, Nat.reduceLeDiff, decide_true, ne_eq, Nat.reduceEqDiff, not_false_eq_true, Classical.not_not, Int.lt_irrefl, false_implies, g0, g1, g5, he, hL]
    refine ⟨fun _ => ⟨fun h => absurd trivial h, ⟨by omega, by omega⟩, fun h => absurd trivial h, ⟨by omega, by omega⟩, fun h => absurd (by omega) h, fun _ => ⟨⟨by omega, by omega⟩, ⟨by omega, by omega⟩, _, ?_, i + 1, rfl, ?_, rfl, by omega, rfl, rfl⟩⟩, fun h => by omega⟩
    · omega
    · rw [show ((i + 1 : Nat) : Int) = (i : Int) + 1 by omega, show k + 3 * ((i : Int) + 1) = k + 3 * i + 1 + 1 + 1 by omega]; rfl
  · have : i = n := by omega
    subst this
    simp only [go_sem, Nat.reduceBEq, Nat.reduceLT, Nat.reduceAdd, Nat.reduceMul, Nat.reduceSub, Nat.reduceLeDiff, decide_true, ne_eq, Nat.reduceEqDiff, not_false_eq_true, Classical.not_not, Int.lt_irrefl, false_implies, g0, g1, g5, hL]
theorem law_markIntS (es : List Int) (out : AV) (τ : Store) (hB : Buf 1 (es.map eI) out τ) (hl : es.length ≤ 1048576) (k : Int) (hk : 0 ≤ k ∧ k ≤ 1125899906842624) :
    CallWp Tryz.prog gl 58 [out, .int k] τ fun r σ => ∃ L : List Int, r = .int (k + es.length) ∧ L.length = es.length ∧ Buf 1 (L.map eI) out σ := by
  refine callWp_of (cf := ⟨19, [0, 1, 4, 5, 9], [], []⟩) (rs := [.tmp 4]) Tryz.func58 rfl (by decide) rfl rfl (by simp) ?_
  simp only [go_sem, Nat.reduceBEq, Nat.reduceLT, Nat.reduceAdd, Nat.reduceMul, Nat.reduceSub, Nat.reduceLeDiff, decide_true, ne_eq, Nat.reduceEqDiff, not_false_eq_true, Classical.not_not, Int.lt_irrefl, false_implies]
  refine LoopWp.by (fun m ρ σ => ∃ (i : Nat) (L : List Int), Buf 1 (L.map eI) out σ ∧ L.length = es.length ∧ get ρ 0 = out ∧ get ρ 1 = .int (k + i) ∧ get ρ 5 = .int i ∧ i ≤ es.length ∧ m = es.length - i) es.length ?_ ?_
  · exact ⟨0, es, hB, rfl, rfl, by simp [AX.get], rfl, by omega, by omega⟩
  rintro m ρ σ ⟨i, L, hBi, hL, g0, g1, g5, hi, rfl⟩
  by_cases hlt : i < es.length
  · obtain ⟨b, c, rest, rfl, rfl, hc1, hc2⟩ := hBi.ints (by intro e; rw [e] at hL; simp at hL; omega)
    have w0 := own_write_app (f := AV.int) (rest := rest) (l := L) (i := i) (y := k + i) (by omega)
    have hBn := Buf.of_ints (L := L.set i (k + i)) (b := b) (c := c) (n := es.length) (rest := rest) (by simp; omega) (by simp; omega) (by simp; omega)
    simp only [go_sem, Nat.reduceBEq, Nat.reduceLT, Nat.reduceAdd, Nat.reduceMul, Nat.reduceSub, Nat.reduceLeDiff, decide_true, ne_eq, Nat.reduceEqDiff, not_false_eq_true, Classical.not_not, Int.lt_irrefl, false_implies, g0, g1, g5, w0, List.length_append, List.length_map, hL]
    refine ⟨fun _ => ⟨by omega, by omega, ⟨by omega, by omega⟩, ⟨by omega, by omega⟩, _, ?_, i + 1, L.set i (k + i), by rw [hL]; exact hBn, by simp [hL], by rw [hL]; rfl, ?_, rfl, by omega, rfl⟩, fun h => by omega⟩
    · omega
    · rw [show ((i + 1 : Nat) : Int) = (i : Int) + 1 by omega, ← Int.add_assoc]; rfl
  · have : i = es.length := by omega
    subst this
    simp only [go_sem, Nat.reduceBEq, Nat.reduceLT, Nat.reduceAdd, Nat.reduceMul, Nat.reduceSub, Nat.reduceLeDiff, decide_true, ne_eq, Nat.reduceEqDiff, not_false_eq_true, Classical.not_not, Int.lt_irrefl, false_implies, g0, g1, g5]
    refine hBi.len rfl ?_
    simp only [go_sem, Nat.reduceBEq, Nat.reduceLT, Nat.reduceAdd, Nat.reduceMul, Nat.reduceSub, Nat.reduceLeDiff, decide_true, ne_eq, Nat.reduceEqDiff, not_false_eq_true, Classical.not_not, Int.lt_irrefl, false_implies, g0, g1, g5, List.length_map, hL]
    exact ⟨L, hL, hBi⟩
end Go.Proofs
end
section
/- Contracts: the laws' marks in nested blocks. -/
namespace Go.Proofs
open Go.AX AG
variable {gl : Globs}
set_option maxRecDepth 10000
set_option linter.unusedSimpArgs false

theorem Nest.front {α ρ : Type} {Q : α → ρ → Store → Prop} {xs : List α} {rows : List ρ} {Ts : List Store} {i : Nat} {τ : Store} (h : Ts[i]? = some τ) (p : Nat × AObj) :
    (τ ++ p :: ((Ts.take i).flatten ++ (Ts.drop (i + 1)).flatten)).Perm (p :: Ts.flatten) ∧ ∀ τ' (q : Nat × AObj), (q :: (Ts.set i τ').flatten).Perm (τ' ++ q :: ((Ts.take i).flatten ++ (Ts.drop (i + 1)).flatten)) := by
  refine ⟨?_, fun τ' q => ?_⟩
  · exact List.perm_middle.trans (((Nest.perm h []).1).symm.cons p)
  · exact (((Nest.perm h τ').2).symm.cons q).trans List.perm_middle.symm
def QmI (_ : List Int) (r : AV) (τ : Store) : Prop := ∃ L : List Int, L.length ≤ 1048576 ∧ Buf 1 (L.map eI) r τ
def QmS (_ : Ts) (r : AV × AV × AV) (τ : Store) : Prop := ∃ L : List Ed, L.length ≤ 1048576 ∧ Buf 3 (L.map eE) r.2.2 τ
theorem law_markIntSS (xs : List (List Int)) (rows : List AV) (Ts : List Store) (hN : Nest QmI xs rows Ts) (hl : xs.length ≤ 1048576) (b n : Nat) (hn : n = xs.length) (k : Int) (hk : 0 ≤ k ∧ k ≤ 35184372088832) :
    CallWp Tryz.prog gl 36 [.msl b 0 n n, .int k] ((b, .own rows) :: Ts.flatten) fun r σ => ∃ k', r = .int k' ∧ (k ≤ k' ∧ k' ≤ k + n * 1048576) := by
  subst hn
  refine callWp_of (cf := ⟨19, [0, 1, 4, 5, 9], [], []⟩) (rs := [.tmp 4]) Tryz.func36 rfl (by decide) rfl rfl (by simp) ?_
  simp only [go_sem, Nat.reduceBEq, Nat.reduceLT, Nat.reduceAdd, Nat.reduceMul, Nat.reduceSub, Nat.reduceLeDiff, decide_true, ne_eq, Nat.reduceEqDiff, not_false_eq_true, Classical.not_not, Int.lt_irrefl, false_implies]
  refine LoopWp.byT (fun m ρ σ => ∃ (i : Nat) (Ts : List Store) (k' : Int), Nest QmI xs rows Ts ∧ get ρ 0 = .msl b 0 xs.length xs.length ∧ get ρ 1 = .int k' ∧ get ρ 5 = .int i ∧ i ≤ xs.length ∧ (k ≤ k' ∧ k' ≤ k + i * 1048576) ∧ σ = (b, .own rows) :: Ts.flatten ∧ m = xs.length - i) xs.length ?_ ?_
  · exact ⟨_, Turn.refl _, 0, Ts, k, hN, rfl, rfl, rfl, by omega, ⟨by omega, by omega⟩, rfl, by omega⟩
  rintro m ρ σ ⟨i, Ts, k', hN, g0, g1, g5, hi, hk', rfl, rfl⟩
  by_cases hlt : i < xs.length
  · obtain ⟨x, hx⟩ : ∃ x, xs[i]? = some x := ⟨_, List.getElem?_eq_getElem hlt⟩
    obtain ⟨r, τ, hr, hτ, L, hLl, hB⟩ := hN.at_ i x hx
    have hrd := own_read (f := id) hr
    rw [List.map_id, id] at hrd
    obtain ⟨p1, p2⟩ := Nest.front (Q := QmI) (xs := xs) (rows := rows) hτ (b, .own rows)
    have hrl := hN.len1
    simp only [go_sem, Nat.reduceBEq, Nat.reduceLT, Nat.reduceAdd, Nat.reduceMul, Nat.reduceSub, Nat.reduceLeDiff, decide_true, ne_eq, Nat.reduceEqDiff, not_false_eq_true, Classical.not_not, Int.lt_irrefl, false_implies, g0, g1, g5, hrd, hrl]
    refine ⟨fun _ => ⟨by omega, by omega, ?_⟩, fun h => by omega⟩
    refine CallWp.perm p1 (CallWp.frame ((law_markIntS L r τ hB hLl k' ⟨by omega, by omega⟩).mono ?_))
    rintro r' τ' ⟨L', rfl, hL', hB'⟩
    simp only [go_sem, Nat.reduceBEq, Nat.reduceLT, Nat.reduceAdd, Nat.reduceMul, Nat.reduceSub, Nat.reduceLeDiff, decide_true, ne_eq, Nat.reduceEqDiff, not_false_eq_true, Classical.not_not, Int.lt_irrefl, false_implies, g0, g5]
    refine ⟨⟨by omega, by omega⟩, _, Turn.perm (p2 τ' _), _, ?_, i + 1, Ts.set i τ', _, ?_, rfl, rfl, rfl, by omega, ⟨by omega, by omega⟩, rfl, rfl⟩
    · omega
    · have := hN.set (r := r) (τ := τ') hx ⟨L', by omega, hB'⟩
      have hs : rows.set i r = rows := List.ext_getElem? fun j => by
        rw [List.getElem?_set]
        split
        · rename_i h; subst h; split
          · exact hr.symm
          · rename_i h; exact absurd (List.getElem?_eq_some_iff.1 hr).1 h
        · rfl
      rw [hs] at this
      exact this
  · have : i = xs.length := by omega
    subst this
    simp only [go_sem, Nat.reduceBEq, Nat.reduceLT, Nat.reduceAdd, Nat.reduceMul, Nat.reduceSub, Nat.reduceLeDiff, decide_true, ne_eq, Nat.reduceEqDiff, not_false_eq_true, Classical.not_not, Int.lt_irrefl, false_implies, g0, g1, g5]
    exact ⟨k', rfl, hk'⟩
theorem law_markBoolS (bs : List Bool) (hl : bs.length ≤ 1048576) (c n : Nat) (hn : n = bs.length) (k : Int) (hk : 0 ≤ k ∧ k ≤ 1125899906842624) :
    CallWp Tryz.prog gl 37 [.msl c 0 n n, .int k] [(c, .own (bs.map AV.bool))] fun r σ => r = .int (k + n) := by
  subst hn
  refine callWp_of (cf := ⟨21, [0, 1, 4, 5, 9], [], []⟩) (rs := [.tmp 4]) Tryz.func37 rfl (by decide) rfl rfl (by simp) ?_
  simp only [go_sem, Nat.reduceBEq, Nat.reduceLT, Nat.reduceAdd, Nat.reduceMul, Nat.reduceSub, Nat.reduceLeDiff, decide_true, ne_eq, Nat.reduceEqDiff, not_false_eq_true, Classical.not_not, Int.lt_irrefl, false_implies]
  refine LoopWp.by (fun m ρ σ => ∃ (i : Nat) (L : List Bool), L.length = bs.length ∧ get ρ 0 = .msl c 0 bs.length bs.length ∧ get ρ 1 = .int (k + i) ∧ get ρ 5 = .int i ∧ i ≤ bs.length ∧ σ = [(c, .own (L.map AV.bool))] ∧ m = bs.length - i) bs.length ?_ ?_
  · exact ⟨0, bs, rfl, rfl, by simp [AX.get], rfl, by omega, rfl, by omega⟩
  rintro m ρ σ ⟨i, L, hL, g0, g1, g5, hi, rfl, rfl⟩
  by_cases hlt : i < bs.length
  · have w0 := fun y => own_write (f := AV.bool) (l := L) (i := i) (y := y) (by omega)
    simp only [go_sem, Nat.reduceBEq, Nat.reduceLT, Nat.reduceAdd, Nat.reduceMul, Nat.reduceSub, Nat.reduceLeDiff, decide_true, ne_eq, Nat.reduceEqDiff, not_false_eq_true, Classical.not_not, Int.lt_irrefl, false_implies, g0, g1, g5, w0, List.length_map, hL]
    refine ⟨fun _ => ⟨⟨by omega, by omega⟩, by omega, by omega, ⟨by omega, by omega⟩, ⟨by omega, by omega⟩, _, ?_, i + 1, L.set i _, by simp [hL], rfl, ?_, rfl, by omega, rfl, rfl⟩, fun h => by omega⟩
    · omega
    · rw [show ((i + 1 : Nat) : Int) = (i : Int) + 1 by omega, ← Int.add_assoc]; rfl
  · have : i = bs.length := by omega
    subst this
    simp only [go_sem, Nat.reduceBEq, Nat.reduceLT, Nat.reduceAdd, Nat.reduceMul, Nat.reduceSub, Nat.reduceLeDiff, decide_true, ne_eq, Nat.reduceEqDiff, not_false_eq_true, Classical.not_not, Int.lt_irrefl, false_implies, g0, g1, g5]
theorem sy_cell {rows : List (AV × AV × AV)} {i : Nat} {x y : AV × AV × AV} {j : Nat} {a : AV} (h : rows[i]? = some x) (hj : j < 3) (hc : splice (r3 x) j [a] = r3 y) : splice (rows.map r3).flatten (i * 3 + j) [a] = ((rows.set i y).map r3).flatten :=
  rows_cell (f := r3) (sz := 3) (fun _ => rfl) h (by simp; omega) hc
theorem law_markSystemS (xs : List Ts) (rows : List (AV × AV × AV)) (Ts : List Store) (hN : Nest QmS xs rows Ts) (hl : xs.length ≤ 1048576) (b n : Nat) (hn : n = xs.length) (k : Int) (hk : 0 ≤ k ∧ k ≤ 35184372088832) :
    CallWp Tryz.prog gl 13 [.msl b 0 n n, .int k] ((b, .own (rows.map r3).flatten) :: Ts.flatten) fun r σ => ∃ k', r = .int k' ∧ (k ≤ k' ∧ k' ≤ k + n * 4194304) := by
  subst hn
  refine callWp_of (cf := ⟨34, [0, 1, 4, 5, 9], [], []⟩) (rs := [.tmp 4]) Tryz.func13 rfl (by decide) rfl rfl (by simp) ?_
  simp only [go_sem, Nat.reduceBEq, Nat.reduceLT, Nat.reduceAdd, Nat.reduceMul, Nat.reduceSub, Nat.reduceLeDiff, decide_true, ne_eq, Nat.reduceEqDiff, not_false_eq_true, Classical.not_not, Int.lt_irrefl, false_implies]
  refine LoopWp.byT (fun m ρ σ => ∃ (i : Nat) (rows : List (AV × AV × AV)) (Ts : List Store) (k' : Int), Nest QmS xs rows Ts ∧ get ρ 0 = .msl b 0 xs.length xs.length ∧ get ρ 1 = .int k' ∧ get ρ 5 = .int i ∧ i ≤ xs.length ∧ (k ≤ k' ∧ k' ≤ k + i * 4194304) ∧ σ = (b, .own (rows.map r3).flatten) :: Ts.flatten ∧ m = xs.length - i) xs.length ?_ ?_
  · exact ⟨_, Turn.refl _, 0, rows, Ts, k, hN, rfl, rfl, rfl, by omega, ⟨by omega, by omega⟩, rfl, by omega⟩
  rintro m ρ σ ⟨i, rows, Ts, k', hN, g0, g1, g5, hi, hk', rfl, rfl⟩
  by_cases hlt : i < xs.length
  · obtain ⟨x, hx⟩ : ∃ x, xs[i]? = some x := ⟨_, List.getElem?_eq_getElem hlt⟩
    obtain ⟨r, τ, hr, hτ, L, hLl, hB⟩ := hN.at_ i x hx
    have hrl := hN.len1
    have w0 := sy_cell (y := (.int k', r.2.1, r.2.2)) (j := 0) (a := .int k') hr (by omega) rfl
    have e1 : (rows.set i (AV.int k', r.2.1, r.2.2))[i]? = some (.int k', r.2.1, r.2.2) := by rw [List.getElem?_set, if_pos rfl, if_pos (by omega)]
    have w1 := sy_cell (y := (.int k', .int (k' + 1), r.2.2)) (j := 1) (a := .int (k' + 1)) e1 (by omega) rfl
    rw [List.set_set] at w1
    have e2 : (rows.set i (AV.int k', AV.int (k' + 1), r.2.2))[i]? = some (.int k', .int (k' + 1), r.2.2) := by rw [List.getElem?_set, if_pos rfl, if_pos (by omega)]
    have hrd := rows_read (f := r3) (sz := 3) (fun _ => rfl) e2 2 1 (by omega)
    rw [show ((r3 (AV.int k', AV.int (k' + 1), r.2.2)).drop 2).take 1 = [r.2.2] from rfl] at hrd
    have l0 : (rows.map r3).flatten.length = xs.length * 3 := by rw [flat_len (f := r3) (sz := 3) (fun _ => rfl), hrl]
    have l1 : ((rows.set i (AV.int k', r.2.1, r.2.2)).map r3).flatten.length = xs.length * 3 := by rw [flat_len (f := r3) (sz := 3) (fun _ => rfl), List.length_set, hrl]
    have l2 : ((rows.set i (AV.int k', AV.int (k' + 1), r.2.2)).map r3).flatten.length = xs.length * 3 := by rw [flat_len (f := r3) (sz := 3) (fun _ => rfl), List.length_set, hrl]
    rw [Nat.add_zero] at w0
    have hN2 := fun τ' (hq : QmS x (AV.int k', AV.int (k' + 1), r.2.2) τ') => hN.set hx hq
    obtain ⟨C2, hC2⟩ : ∃ C2, C2 = ((rows.set i (AV.int k', AV.int (k' + 1), r.2.2)).map r3).flatten := ⟨_, rfl⟩
    obtain ⟨p1, p2⟩ := Nest.front (Q := QmS) (xs := xs) (rows := rows) hτ (b, .own C2)
    rw [← hC2] at w1 hrd l2
    generalize hp : r.2.2 = p at *
    generalize ((rows.set i (AV.int k', r.2.1, p)).map r3).flatten = C1 at *
    simp only [go_sem, Nat.reduceBEq, Nat.reduceLT, Nat.reduceAdd, Nat.reduceMul, Nat.reduceSub, Nat.reduceLeDiff, decide_true, ne_eq, Nat.reduceEqDiff, not_false_eq_true, Classical.not_not, Int.lt_irrefl, false_implies, g0, g1, g5, w0, w1, hrd, l0, l1, l2]
    refine ⟨fun _ => ⟨by omega, by omega, ⟨by omega, by omega⟩, by omega, by omega, ⟨by omega, by omega⟩, by omega, by omega, ?_⟩, fun h => by omega⟩
    refine CallWp.perm p1 (CallWp.frame ((law_markEdgeS L p τ hB hLl (k' + 1 + 1) ⟨by omega, by omega⟩).mono ?_))
    rintro r' τ' ⟨rfl, hB'⟩
    simp only [go_sem, Nat.reduceBEq, Nat.reduceLT, Nat.reduceAdd, Nat.reduceMul, Nat.reduceSub, Nat.reduceLeDiff, decide_true, ne_eq, Nat.reduceEqDiff, not_false_eq_true, Classical.not_not, Int.lt_irrefl, false_implies, g0, g5]
    refine ⟨⟨by omega, by omega⟩, _, Turn.perm (p2 τ' _), _, ?_, i + 1, _, Ts.set i τ', _, hN2 τ' ⟨_, by rw [mkE_length]; exact hLl, hB'⟩, rfl, rfl, rfl, by omega, ⟨by omega, by omega⟩, by rw [hC2], rfl⟩
    omega
  · have : i = xs.length := by omega
    subst this
    simp only [go_sem, Nat.reduceBEq, Nat.reduceLT, Nat.reduceAdd, Nat.reduceMul, Nat.reduceSub, Nat.reduceLeDiff, decide_true, ne_eq, Nat.reduceEqDiff, not_false_eq_true, Classical.not_not, Int.lt_irrefl, false_implies, g0, g1, g5]
    exact ⟨k', rfl, hk'⟩
theorem law_markAutomaton (p : Au) (rows : List AV) (Ts : List Store) (hN : Nest QmI p.nx rows Ts) (h1 : p.nx.length ≤ 1048576) (h3 : p.ac.length ≤ 1048576) (b c : Nat) (k : Int) (hk : 0 ≤ k ∧ k ≤ 35184372088832) :
    CallWp Tryz.prog gl 14 [.agg [.int p.al, .msl b 0 p.nx.length p.nx.length, .msl c 0 p.ac.length p.ac.length], .int k] (((b, .own rows) :: Ts.flatten) ++ [(c, .own (p.ac.map AV.bool))]) fun r σ => ∃ k', r = .int k' ∧ (k ≤ k' ∧ k' ≤ k + 1152921504606846976) := by
  refine callWp_of (cf := ⟨14, [0, 1, 2, 4], [], [2, 5, 9]⟩) (rs := [.tmp 4]) Tryz.func14 rfl (by decide) rfl rfl (by simp) ?_
  simp only [go_sem, Nat.reduceBEq, Nat.reduceLT, Nat.reduceAdd, Nat.reduceMul, Nat.reduceSub, Nat.reduceLeDiff, decide_true, ne_eq, Nat.reduceEqDiff, not_false_eq_true, Classical.not_not, Int.lt_irrefl, false_implies]
  refine CallWp.frame (σ1 := (b, .own rows) :: Ts.flatten) (σ2 := [(c, .own (p.ac.map AV.bool))]) ((law_markIntSS p.nx rows Ts hN h1 b _ rfl k hk).mono ?_)
  rintro r σ ⟨k', rfl, hk'⟩
  simp only [go_sem, Nat.reduceBEq, Nat.reduceLT, Nat.reduceAdd, Nat.reduceMul, Nat.reduceSub, Nat.reduceLeDiff, decide_true, ne_eq, Nat.reduceEqDiff, not_false_eq_true, Classical.not_not, Int.lt_irrefl, false_implies]
  refine CallWp.perm (List.perm_append_comm (l₁ := [(c, .own (p.ac.map AV.bool))]) (l₂ := σ)) (CallWp.frame ((law_markBoolS p.ac h3 c _ rfl k' ⟨by omega, by omega⟩).mono ?_))
  rintro r τ rfl
  simp only [go_sem, Nat.reduceBEq, Nat.reduceLT, Nat.reduceAdd, Nat.reduceMul, Nat.reduceSub, Nat.reduceLeDiff, decide_true, ne_eq, Nat.reduceEqDiff, not_false_eq_true, Classical.not_not, Int.lt_irrefl, false_implies]
  exact ⟨_, rfl, by omega, by omega⟩
end Go.Proofs
end
section
/- The walk of the law. -/
namespace Go.AX
open Go
section
variable {P : Program} {gl : Globs}
theorem Turn.rest {b : Nat} {xs rest : List AV} {σ : Store} : Turn gl ((b, .own (xs ++ rest)) :: σ) ((b, .own (xs ++ rest.map fun _ => .top)) :: σ) := by
  refine Turn.see ?_
  have key : ∀ (q : Store) (r : List AV), SeesAll gl q r (r.map fun _ => .top) := fun q r => by
    induction r with
    | nil => exact trivial
    | cons a r ih => exact ⟨fun w M v hI hr => by simp only [rep], ih⟩
  have app : ∀ (q : Store) (a : List AV), SeesAll gl q (a ++ rest) (a ++ rest.map fun _ => .top) := fun q a => by
    induction a with
    | nil => exact key q rest
    | cons x a ih => exact ⟨Sees.refl _, ih⟩
  exact app _ xs
theorem Buf.flat {sz : Nat} {xs : List (List AV)} {out : AV} {τ : Store} (h : Buf sz xs out τ) (hx : ∀ r ∈ xs, ∀ v ∈ r, flatA v = true ∧ ∀ us, v ≠ .tup us) : ∃ τ2, Turn gl τ τ2 ∧ Buf sz xs out τ2 ∧ flatA out = true ∧ ∀ p ∈ τ2, flatO p.2 = true := by
  rcases h with ⟨rfl, ho, rfl⟩ | ⟨b, c, rest, rfl, rfl, h1, h2, h3⟩
  · refine ⟨[], Turn.refl _, .inl ⟨rfl, ho, rfl⟩, ?_, by simp⟩
    rcases ho with rfl | rfl <;> rfl
  · refine ⟨_, Turn.rest, .inr ⟨b, c, _, rfl, rfl, h1, by simpa using h2, h3⟩, rfl, fun p hp => ?_⟩
    simp only [List.mem_singleton] at hp
    subst hp
    simp only [flatO, List.all_eq_true, List.mem_append, List.mem_flatten, List.mem_map]
    rintro v (⟨r, hr, hv⟩ | ⟨_, _, rfl⟩)
    · obtain ⟨g1, g2⟩ := hx r hr v hv
      cases v <;> simp_all [flatA]
    · rfl
/-- Own blocks lent; the result comes with an own slice of its own. -/
theorem CallWp.lendB {f : FuncId} {us bs : List AV} {τ σ σ0 : Store} {K : AV → Store → Prop} {sz : Nat} {xs : List (List AV)} (h : CallWp P gl f bs [] fun r σ' => Buf sz xs r σ') (hx : ∀ r ∈ xs, ∀ v ∈ r, flatA v = true ∧ ∀ us, v ≠ .tup us)
    (hv : GhAll gl τ us bs) (hp : (τ ++ σ).Perm σ0) (hk : ∀ out τo, Buf sz xs out τo → Dj τo σ0 → K out (τo ++ σ0)) : CallWp P gl f us σ0 K := by
  have h1 : CallWp P gl f bs [] fun r σ' => Buf sz xs r σ' ∧ flatA r = true ∧ ∀ p ∈ σ', flatO p.2 = true := CallWp.turnP (h.mono fun r σ' hb => by
    obtain ⟨τ2, ht, h1, h2, h3⟩ := hb.flat (gl := gl) hx
    exact ⟨τ2, ht, h1, h2, h3⟩)
  have h2 : CallWp P gl f us τ fun r σ' => ∃ τo, Buf sz xs r τo ∧ σ' = τo ++ τ := CallWp.lend hv (h1.mono fun r σ' ⟨hb, g1, g2⟩ => ⟨g1, g2, σ', hb, rfl⟩)
  have h3 : CallWp P gl f us σ0 fun r σ' => ∃ τo, Buf sz xs r τo ∧ σ' = τo ++ σ0 := CallWp.perm hp (CallWp.turnP (CallWp.frame (h2.mono fun r σ' ⟨τo, hb, he⟩ => ⟨τo ++ σ0, Turn.perm (by
    rw [he, List.append_assoc]
    exact (hp.append_left τo).symm), τo, hb, rfl⟩)))
  exact h3.nodup.mono fun r σ' ⟨⟨τo, hb, he⟩, hn⟩ => by
    subst he
    exact hk r τo hb (dj_of_nodup hn)
end
end Go.AX
namespace Go.Proofs
open Go.AX AG
variable {gl : Globs}
set_option maxRecDepth 10000
set_option linter.unusedSimpArgs false

theorem eE_flat (es : List Ed) : ∀ r ∈ es.map eE, ∀ v ∈ r, flatA v = true ∧ ∀ us, v ≠ AV.tup us := by
  intro r hr v hv
  obtain ⟨e, _, rfl⟩ := List.mem_map.1 hr
  simp only [eE, List.mem_cons, List.not_mem_nil, or_false] at hv
  rcases hv with rfl | rfl | rfl <;> exact ⟨rfl, fun us h => by cases h⟩
theorem law_main (hg : lookG gl 1 = .cptr deBruijn) (l : List Ts) (p : Au) (part : Int) (q1 : l.length ≤ 9223372036854775807) (q2 : ∀ s ∈ l, s.ed.length ≤ 9223372036854775807) (q3 : p.nx.length ≤ 9223372036854775807) (q4 : ∀ r ∈ p.nx, r.length ≤ 9223372036854775807) (q5 : p.ac.length ≤ 9223372036854775807) :
    CallWp Tryz.prog gl 3 [systems l, .agg (eA p), .int part] [] fun r σ => r = .bool true := by
  refine callWp_of (cf := ⟨97, [0, 1, 2, 4, 6, 7, 8, 9, 10, 11, 12, 13, 14, 15, 20, 25, 43, 48, 53, 67, 75, 78, 88, 93, 96], [52], [4]⟩) (rs := [.tmp 6]) Tryz.func3 rfl (by decide) rfl rfl (by simp) ?_
  simp only [go_sem, Nat.reduceBEq, Nat.reduceLT, Nat.reduceAdd, Nat.reduceMul, Nat.reduceSub, Nat.reduceLeDiff, decide_true, ne_eq, Nat.reduceEqDiff, not_false_eq_true, Classical.not_not, Int.lt_irrefl, false_implies]
  refine (law_szSystemS l 1048576 (by omega) q1 q2).call ?_
  simp only [go_sem, Nat.reduceBEq, Nat.reduceLT, Nat.reduceAdd, Nat.reduceMul, Nat.reduceSub, Nat.reduceLeDiff, decide_true, ne_eq, Nat.reduceEqDiff, not_false_eq_true, Classical.not_not, Int.lt_irrefl, false_implies]
  refine fun z1 => ?_
  have y1 := szSys_ok z1
  refine (law_szAutomaton p _ ⟨y1.2.2.1, by omega⟩ q3 q4 q5).call ?_
  simp only [go_sem, Nat.reduceBEq, Nat.reduceLT, Nat.reduceAdd, Nat.reduceMul, Nat.reduceSub, Nat.reduceLeDiff, decide_true, ne_eq, Nat.reduceEqDiff, not_false_eq_true, Classical.not_not, Int.lt_irrefl, false_implies]
  refine fun z2 => ?_
  have y2 := szAut_ok z2
  have b1 : l.length ≤ 1048576 := by omega
  have b2 : ∀ s ∈ l, s.ed.length ≤ 1048576 := fun s hs => by have := y1.2.1 s hs; omega
  have b3 : p.nx.length ≤ 1048576 := by omega
  have b4 : ∀ r ∈ p.nx, r.length ≤ 1048576 := fun s hs => by have := y2.2.1 s hs; omega
  have b5 : p.ac.length ≤ 1048576 := by omega
  refine DrawK.text mixed (by kernel_rfl) ?_
  simp only [go_sem, Nat.reduceBEq, Nat.reduceLT, Nat.reduceAdd, Nat.reduceMul, Nat.reduceSub, Nat.reduceLeDiff, decide_true, ne_eq, Nat.reduceEqDiff, not_false_eq_true, Classical.not_not, Int.lt_irrefl, false_implies]
  refine ⟨_, law_toSystemSP l b1 b2, ?_⟩
  simp only [go_sem, Nat.reduceBEq, Nat.reduceLT, Nat.reduceAdd, Nat.reduceMul, Nat.reduceSub, Nat.reduceLeDiff, decide_true, ne_eq, Nat.reduceEqDiff, not_false_eq_true, Classical.not_not, Int.lt_irrefl, false_implies]
  refine ⟨_, law_toAutomatonP p b3 b4 b5, ?_⟩
  simp only [go_sem, Nat.reduceBEq, Nat.reduceLT, Nat.reduceAdd, Nat.reduceMul, Nat.reduceSub, Nat.reduceLeDiff, decide_true, ne_eq, Nat.reduceEqDiff, not_false_eq_true, Classical.not_not, Int.lt_irrefl, false_implies]
  refine ⟨_, spec_RepairEdges l p part b1 b2 b3 b4, ?_⟩
  simp only [go_sem, Nat.reduceBEq, Nat.reduceLT, Nat.reduceAdd, Nat.reduceMul, Nat.reduceSub, Nat.reduceLeDiff, decide_true, ne_eq, Nat.reduceEqDiff, not_false_eq_true, Classical.not_not, Int.lt_irrefl, false_implies]
  refine (law_toSystemS l b1 b2).mono ?_
  rintro xs S ⟨b, rows, Ts, hN, hxs, hS⟩
  have sGh : Gh gl S xs [] (systems l) := by subst hxs hS; exact hN.systems rfl
  have sMk : ∀ k : Int, (0 ≤ k ∧ k ≤ 35184372088832) → CallWp Tryz.prog gl 13 [xs, .int k] S fun r σ => ∃ k', r = .int k' ∧ (k ≤ k' ∧ k' ≤ k + 4398046511104) := fun k hk => by
    subst hxs hS
    refine (law_markSystemS l rows Ts (hN.mono fun s hs r τ h => ⟨s.ed, b2 s hs, h.2.2⟩) b1 b _ rfl k hk).mono fun r σ ⟨k', h1, h2, h3⟩ => ⟨k', h1, h2, by omega⟩
  clear hxs hS hN
  simp only [go_sem, Nat.reduceBEq, Nat.reduceLT, Nat.reduceAdd, Nat.reduceMul, Nat.reduceSub, Nat.reduceLeDiff, decide_true, ne_eq, Nat.reduceEqDiff, not_false_eq_true, Classical.not_not, Int.lt_irrefl, false_implies]
  refine CallWp.frame0 ((law_toAutomaton p b3 b4 b5).mono ?_)
  rintro r A ⟨b, c, rows, Ts, hN, hr, hA⟩ hdA
  obtain ⟨xn, hxn⟩ : ∃ xn, xn = AV.msl b 0 p.nx.length p.nx.length := ⟨_, rfl⟩
  obtain ⟨xa, hxa⟩ : ∃ xa, xa = AV.msl c 0 p.ac.length p.ac.length := ⟨_, rfl⟩
  have aGh : Gh gl A (.agg [.int p.al, xn, xa]) [] (.agg (eA p)) := by rw [hxn, hxa, hA]; exact own_automaton hN
  have aMk : ∀ k : Int, (0 ≤ k ∧ k ≤ 35184372088832) → CallWp Tryz.prog gl 14 [.agg [.int p.al, xn, xa], .int k] A fun r σ => ∃ k', r = .int k' ∧ (k ≤ k' ∧ k' ≤ k + 1152921504606846976) := fun k hk => by
    rw [hxn, hxa, hA]
    exact law_markAutomaton p rows Ts (hN.mono fun s hs r τ h => ⟨s, b4 s hs, h⟩) b3 b5 b c k hk
  rw [← hxn, ← hxa] at hr
  subst hr
  clear hxn hxa hA hN
  simp only [go_sem, Nat.reduceBEq, Nat.reduceLT, Nat.reduceAdd, Nat.reduceMul, Nat.reduceSub, Nat.reduceLeDiff, decide_true, ne_eq, Nat.reduceEqDiff, not_false_eq_true, Classical.not_not, Int.lt_irrefl, false_implies]
  intro b10 hf10
  have hpSA : (S ++ A ++ [(b10, AObj.own [.int p.al, xn, xa])]).Perm ((b10, AObj.own [.int p.al, xn, xa]) :: (A ++ S)) := (List.perm_append_singleton _ (S ++ A)).trans (List.perm_append_comm.cons _)
  have hvSA : GhAll gl (S ++ A) [xs, .agg [.int p.al, xn, xa], .int part] [systems l, .agg (eA p), .int part] := by
    have := Gh.cons sGh (Gh.cons aGh (Gh.cons (Gh.of (Sees.refl (.int part))) GhAll.nil))
    simpa using this
  refine CallWp.lendB (impl_RepairEdges hg l p part b1 b2 b3 b4) (eE_flat _) hvSA hpSA fun out O hO hdO => ?_
  have hrl : (repair l p part).length ≤ 1048576 := by
    unfold repair
    split
    · cases hs : l[part.toNat]? with
      | none => simp
      | some s => exact Nat.le_trans (repUp_length l p _ s _) (b2 s (List.mem_of_getElem? hs))
    · simp
  generalize hR : repair l p part = R at *
  have oGh : Gh gl O out [] (edges R) := hO.gh (gl := gl)
  have hAw : Away b10 O := Away.of hdO (look_hd ..)
  have rP : Pure Tryz.prog gl 9 [systems l, .agg (eA p), .int part] (edges R) := by
    rw [← hR]
    exact Pure.own ((impl_RepairEdges hg l p part b1 b2 b3 b4).mono fun r σ hb => Buf.gh hb)
  have oEq : GhAll gl O [out, edges R] [edges R, edges R] := by
    have := Gh.cons oGh (Gh.cons (Gh.of (gl := gl) (Sees.refl (edges R))) GhAll.nil)
    simpa using this
  have sEq : GhAll gl S [xs, systems l] [systems l, systems l] := by
    have := Gh.cons sGh (Gh.cons (Gh.of (gl := gl) (Sees.refl (systems l))) GhAll.nil)
    simpa using this
  have aEq : GhAll gl A [.agg [.int p.al, xn, xa], .agg (eA p)] [.agg (eA p), .agg (eA p)] := by
    have := Gh.cons aGh (Gh.cons (Gh.of (gl := gl) (Sees.refl (.agg (eA p)))) GhAll.nil)
    simpa using this
  simp only [go_sem, Nat.reduceBEq, Nat.reduceLT, Nat.reduceAdd, Nat.reduceMul, Nat.reduceSub, Nat.reduceLeDiff, decide_true, ne_eq, Nat.reduceEqDiff, not_false_eq_true, Classical.not_not, Int.lt_irrefl, false_implies]
  refine Pure.lendP (law_eqEdgeS R hrl) oEq rfl (List.Perm.refl _) ?_
  simp only [go_sem, Nat.reduceBEq, Nat.reduceLT, Nat.reduceAdd, Nat.reduceMul, Nat.reduceSub, Nat.reduceLeDiff, decide_true, ne_eq, Nat.reduceEqDiff, not_false_eq_true, Classical.not_not, Int.lt_irrefl, false_implies]
  refine (law_toSystemSP l b1 b2).call ?_
  simp only [go_sem, Nat.reduceBEq, Nat.reduceLT, Nat.reduceAdd, Nat.reduceMul, Nat.reduceSub, Nat.reduceLeDiff, decide_true, ne_eq, Nat.reduceEqDiff, not_false_eq_true, Classical.not_not, Int.lt_irrefl, false_implies]
  have hpS : (S ++ (O ++ (b10, AObj.own [.int p.al, xn, xa]) :: A)).Perm (O ++ (b10, AObj.own [.int p.al, xn, xa]) :: (A ++ S)) := by
    have := List.perm_append_comm (l₁ := S) (l₂ := O ++ (b10, AObj.own [.int p.al, xn, xa]) :: A)
    simpa using this
  refine Pure.lendP (law_eqSystemS l b1 b2) sEq rfl hpS ?_
  simp only [go_sem, Nat.reduceBEq, Nat.reduceLT, Nat.reduceAdd, Nat.reduceMul, Nat.reduceSub, Nat.reduceLeDiff, decide_true, ne_eq, Nat.reduceEqDiff, not_false_eq_true, Classical.not_not, Int.lt_irrefl, false_implies]
  refine DrawK.text mixed (by kernel_rfl) ?_
  simp only [go_sem, Nat.reduceBEq, Nat.reduceLT, Nat.reduceAdd, Nat.reduceMul, Nat.reduceSub, Nat.reduceLeDiff, decide_true, ne_eq, Nat.reduceEqDiff, not_false_eq_true, Classical.not_not, Int.lt_irrefl, false_implies, hAw.look]
  refine ⟨_, law_toAutomatonP p b3 b4 b5, ?_⟩
  simp only [go_sem, Nat.reduceBEq, Nat.reduceLT, Nat.reduceAdd, Nat.reduceMul, Nat.reduceSub, Nat.reduceLeDiff, decide_true, ne_eq, Nat.reduceEqDiff, not_false_eq_true, Classical.not_not, Int.lt_irrefl, false_implies]
  have hpA : (A ++ (O ++ (b10, AObj.own [.int p.al, xn, xa]) :: S)).Perm (O ++ (b10, AObj.own [.int p.al, xn, xa]) :: (A ++ S)) := by
    have := (List.perm_append_comm (l₁ := A) (l₂ := O ++ [(b10, AObj.own [.int p.al, xn, xa])])).append_right S
    simpa using this
  refine ⟨.bool true, Pure.lendP (law_eqAutomaton p b3 b4 b5) aEq rfl hpA ⟨rfl, rfl⟩, ?_⟩
  simp only [go_sem, Nat.reduceBEq, Nat.reduceLT, Nat.reduceAdd, Nat.reduceMul, Nat.reduceSub, Nat.reduceLeDiff, decide_true, ne_eq, Nat.reduceEqDiff, not_false_eq_true, Classical.not_not, Int.lt_irrefl, false_implies]
  refine CallWp.perm hpS (CallWp.frameD ((sMk 1 (by omega)).mono ?_))
  rintro r S' ⟨k1, rfl, hk1⟩ hdS
  have hAw2 : Away b10 S' := Away.of hdS (by rw [hAw.look]; exact look_hd ..)
  simp only [go_sem, Nat.reduceBEq, Nat.reduceLT, Nat.reduceAdd, Nat.reduceMul, Nat.reduceSub, Nat.reduceLeDiff, decide_true, ne_eq, Nat.reduceEqDiff, not_false_eq_true, Classical.not_not, Int.lt_irrefl, false_implies, hAw.look, hAw2.look]
  have hpA2 : (A ++ (S' ++ (O ++ [(b10, AObj.own [.int p.al, xn, xa])]))).Perm (S' ++ (O ++ (b10, AObj.own [.int p.al, xn, xa]) :: A)) := by
    have := List.perm_append_comm (l₁ := A) (l₂ := S' ++ (O ++ [(b10, AObj.own [.int p.al, xn, xa])]))
    simpa using this
  refine CallWp.perm hpA2 (CallWp.frame ((aMk k1 (by omega)).mono ?_))
  rintro r A' ⟨k2, rfl, hk2⟩
  have hpO : (O ++ (A' ++ (S' ++ [(b10, AObj.own [.int p.al, xn, xa])]))).Perm (A' ++ (S' ++ (O ++ [(b10, AObj.own [.int p.al, xn, xa])]))) := by
    have := (List.perm_append_comm (l₁ := O) (l₂ := A' ++ S')).append_right [(b10, AObj.own [.int p.al, xn, xa])]
    simpa using this
  simp only [go_sem, Nat.reduceBEq, Nat.reduceLT, Nat.reduceAdd, Nat.reduceMul, Nat.reduceSub, Nat.reduceLeDiff, decide_true, ne_eq, Nat.reduceEqDiff, not_false_eq_true, Classical.not_not, Int.lt_irrefl, false_implies]
  refine ⟨fun h => by omega, fun _ => ?_⟩
  refine Pure.lendP (law_eqEdgeS R hrl) oEq rfl hpO ?_
  simp only [go_sem, Nat.reduceBEq, Nat.reduceLT, Nat.reduceAdd, Nat.reduceMul, Nat.reduceSub, Nat.reduceLeDiff, decide_true, ne_eq, Nat.reduceEqDiff, not_false_eq_true, Classical.not_not, Int.lt_irrefl, false_implies]
  refine CallWp.perm hpO (CallWp.frame ((law_markEdgeS R out O hO hrl 1 (by omega)).mono ?_))
  rintro r O' ⟨rfl, hO'⟩
  have oHeld : GhAll gl O' [out, .int 1] [edges (mkE 1 R.length), .int 1] := by
    have h1 : Gh gl O' out [] (edges (mkE 1 R.length)) := hO'.gh (gl := gl)
    have := Gh.cons h1 (Gh.cons (Gh.of (gl := gl) (Sees.refl (.int 1))) GhAll.nil)
    simpa using this
  have hheld := law_heldEdgeS (gl := gl) R.length hrl 1 (by omega)
  simp only [go_sem, Nat.reduceBEq, Nat.reduceLT, Nat.reduceAdd, Nat.reduceMul, Nat.reduceSub, Nat.reduceLeDiff, decide_true, ne_eq, Nat.reduceEqDiff, not_false_eq_true, Classical.not_not, Int.lt_irrefl, false_implies]
  refine Pure.lendP hheld oHeld rfl (List.Perm.refl _) ?_
  simp only [go_sem, Nat.reduceBEq, Nat.reduceLT, Nat.reduceAdd, Nat.reduceMul, Nat.reduceSub, Nat.reduceLeDiff, decide_true, ne_eq, Nat.reduceEqDiff, not_false_eq_true, Classical.not_not, Int.lt_irrefl, false_implies]
  refine ⟨fun h => by omega, fun _ => ⟨fun h => absurd trivial h, ?_⟩⟩
  refine DrawK.text mixed (by kernel_rfl) ?_
  simp only [go_sem, Nat.reduceBEq, Nat.reduceLT, Nat.reduceAdd, Nat.reduceMul, Nat.reduceSub, Nat.reduceLeDiff, decide_true, ne_eq, Nat.reduceEqDiff, not_false_eq_true, Classical.not_not, Int.lt_irrefl, false_implies]
  refine ⟨_, law_toSystemSP l b1 b2, ?_⟩
  simp only [go_sem, Nat.reduceBEq, Nat.reduceLT, Nat.reduceAdd, Nat.reduceMul, Nat.reduceSub, Nat.reduceLeDiff, decide_true, ne_eq, Nat.reduceEqDiff, not_false_eq_true, Classical.not_not, Int.lt_irrefl, false_implies]
  refine ⟨_, law_toAutomatonP p b3 b4 b5, ?_⟩
  simp only [go_sem, Nat.reduceBEq, Nat.reduceLT, Nat.reduceAdd, Nat.reduceMul, Nat.reduceSub, Nat.reduceLeDiff, decide_true, ne_eq, Nat.reduceEqDiff, not_false_eq_true, Classical.not_not, Int.lt_irrefl, false_implies]
  refine ⟨_, rP, ?_⟩
  simp only [go_sem, Nat.reduceBEq, Nat.reduceLT, Nat.reduceAdd, Nat.reduceMul, Nat.reduceSub, Nat.reduceLeDiff, decide_true, ne_eq, Nat.reduceEqDiff, not_false_eq_true, Classical.not_not, Int.lt_irrefl, false_implies]
  refine (law_eqEdgeS R hrl).call ?_
  simp only [go_sem, Nat.reduceBEq, Nat.reduceLT, Nat.reduceAdd, Nat.reduceMul, Nat.reduceSub, Nat.reduceLeDiff, decide_true, ne_eq, Nat.reduceEqDiff, not_false_eq_true, Classical.not_not, Int.lt_irrefl, false_implies]
  refine Pure.lendP hheld oHeld rfl (List.Perm.refl _) ?_
  simp only [go_sem, Nat.reduceBEq, Nat.reduceLT, Nat.reduceAdd, Nat.reduceMul, Nat.reduceSub, Nat.reduceLeDiff, decide_true, ne_eq, Nat.reduceEqDiff, not_false_eq_true, Classical.not_not, Int.lt_irrefl, false_implies]
  exact ⟨fun h => by omega, fun _ h => absurd trivial h⟩
end Go.Proofs
end
