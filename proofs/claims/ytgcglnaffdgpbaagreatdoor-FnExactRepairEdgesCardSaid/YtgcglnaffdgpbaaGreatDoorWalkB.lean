/- Contracts of the functions that the law reaches. -/
import Derived.Test.YtgcglnaffdgpbaaGreatDoorWalkA
import Derived.Test.YtgcglnaffdgpbaaGreatDoorPlainA
section
/- Contracts: the spec's search, sizes, decoding, choices, neighbours. -/
namespace Go.Proofs
open Go.AX AG
variable {gl : Globs}
set_option maxRecDepth 10000
set_option linter.unusedSimpArgs false

theorem spec_l4Near (mv : List (List Int)) (dist : List Int) (d : Int) (h1 : mv.length ≤ 1048576) (h2 : ∀ r ∈ mv, r.length ≤ 1048576 ∧ ∀ x ∈ r, 0 ≤ x ∧ x < dist.length) : Pure Tryz.prog gl 89 [intss mv, ints dist, .int d] (.bool (near mv dist d)) := by
  refine callWp_of (cf := ⟨36, [0, 1, 2, 6, 7, 8, 12, 21, 35], [], []⟩) (rs := [.tmp 6]) Tryz.func89 rfl (by decide) rfl rfl (by simp) ?_
  simp only [go_sem, Nat.reduceBEq, Nat.reduceLT, Nat.reduceAdd, Nat.reduceMul, Nat.reduceSub, Nat.reduceLeDiff, decide_true, ne_eq, Nat.reduceEqDiff, not_false_eq_true, Classical.not_not, Int.lt_irrefl, false_implies]
  refine LoopWp.by (fun m ρ σ => ∃ i : Nat, get ρ 0 = intss mv ∧ get ρ 1 = ints dist ∧ get ρ 2 = .int d ∧ get ρ 7 = .int i ∧ i ≤ mv.length ∧ near (mv.take i) dist d = false ∧ σ = [] ∧ m = mv.length - i) mv.length ?_ ?_
  · exact ⟨0, rfl, rfl, rfl, rfl, by omega, by simp [near], rfl, by omega⟩
  rintro m ρ σ ⟨i, g0, g1, g2, g7, hi, hall, rfl, rfl⟩
  by_cases hlt : i < mv.length
  · obtain ⟨r, hr⟩ : ∃ r, mv[i]? = some r := ⟨_, List.getElem?_eq_getElem hlt⟩
    have hr2 := h2 r (List.mem_of_getElem? hr)
    simp only [go_sem, Nat.reduceBEq, Nat.reduceLT, Nat.reduceAdd, Nat.reduceMul, Nat.reduceSub, Nat.reduceLeDiff, decide_true, ne_eq, Nat.reduceEqDiff, not_false_eq_true, Classical.not_not, Int.lt_irrefl, false_implies, g0, g1, g2, g7]
    refine ⟨fun _ => ?_, fun h => by omega⟩
    refine LoopWp.by (fun m ρ σ => ∃ j : Nat, get ρ 0 = intss mv ∧ get ρ 1 = ints dist ∧ get ρ 2 = .int d ∧ get ρ 7 = .int i ∧ get ρ 8 = .int j ∧ j ≤ r.length ∧ nearRow dist d (r.take j) = false ∧ σ = [] ∧ m = r.length - j) r.length ?_ ?_
    · exact ⟨0, rfl, rfl, rfl, rfl, rfl, by omega, by simp [nearRow], rfl, by omega⟩
    rintro m ρ σ ⟨j, g0, g1, g2, g7, g8, hj, hallj, rfl, rfl⟩
    by_cases hlt2 : j < r.length
    · obtain ⟨x, hx⟩ : ∃ x, r[j]? = some x := ⟨_, List.getElem?_eq_getElem hlt2⟩
      have hx2 := hr2.2 x (List.mem_of_getElem? hx)
      obtain ⟨y, hy⟩ : ∃ y, dist[x.toNat]? = some y := ⟨_, List.getElem?_eq_getElem (by omega)⟩
      simp only [go_sem, Nat.reduceBEq, Nat.reduceLT, Nat.reduceAdd, Nat.reduceMul, Nat.reduceSub, Nat.reduceLeDiff, decide_true, ne_eq, Nat.reduceEqDiff, not_false_eq_true, Classical.not_not, Int.lt_irrefl, false_implies, g0, g1, g2, g7, g8, hr, hx, hy]
      refine ⟨fun _ => ⟨by omega, fun h => ?_, fun h => ?_⟩, fun h => by omega⟩
      · subst h
        have : near mv dist y = true := by
          simp only [near, nearRow, List.any_eq_true]
          exact ⟨r, List.mem_of_getElem? hr, x, List.mem_of_getElem? hx, by simp [hy]⟩
        rw [this]
      · exact ⟨⟨by omega, by omega⟩, _, by omega, j + 1, rfl, rfl, rfl, rfl, rfl, by omega, by unfold nearRow at hallj ⊢; rw [List.take_add_one, hx, List.any_append, hallj]; simp [hy, h], rfl, rfl⟩
    · have : j = r.length := by omega
      subst this
      rw [List.take_length] at hallj
      simp only [go_sem, Nat.reduceBEq, Nat.reduceLT, Nat.reduceAdd, Nat.reduceMul, Nat.reduceSub, Nat.reduceLeDiff, decide_true, ne_eq, Nat.reduceEqDiff, not_false_eq_true, Classical.not_not, Int.lt_irrefl, false_implies, g0, g1, g2, g7, g8, hr]
      exact ⟨⟨by omega, by omega⟩, _, by omega, i + 1, rfl, rfl, rfl, rfl, by omega, by unfold near at hall ⊢; rw [List.take_add_one, hr, List.any_append, hall]; simp [hallj], rfl, rfl⟩
  · have : i = mv.length := by omega
    subst this
    simp only [go_sem, Nat.reduceBEq, Nat.reduceLT, Nat.reduceAdd, Nat.reduceMul, Nat.reduceSub, Nat.reduceLeDiff, decide_true, ne_eq, Nat.reduceEqDiff, not_false_eq_true, Classical.not_not, Int.lt_irrefl, false_implies, g0, g1, g2, g7]
    rw [List.take_length] at hall
    rw [hall]

theorem spec_l4Sizes (n : Nt) (h1 : n.ps.length ≤ 1048576) (h2 : n.as.length ≤ 1048576) : Pure Tryz.prog gl 70 [.agg (eN n)] (ints (szs n)) := by
  refine Pure.of (callWp_of (cf := ⟨41, [0, 1, 2, 3, 4, 5, 11, 27], [], [1, 8, 15, 24, 31]⟩) (rs := [.tmp 2]) Tryz.func70 rfl (by decide) rfl rfl (by simp) ?_)
  simp only [go_sem, Nat.reduceBEq, Nat.reduceLT, Nat.reduceAdd, Nat.reduceMul, Nat.reduceSub, Nat.reduceLeDiff, decide_true, ne_eq, Nat.reduceEqDiff, not_false_eq_true, Classical.not_not, Int.lt_irrefl, false_implies]
  refine LoopWp.by (fun m ρ σ => ∃ (i : Nat) (out : AV), Acc 1 (((n.ps.take i).map (·.st)).map eI) out σ ∧ get ρ 1 = .cptr (eN n) ∧ get ρ 3 = out ∧ get ρ 4 = .int i ∧ i ≤ n.ps.length ∧ m = n.ps.length - i) n.ps.length ?_ ?_
  · exact ⟨0, _, Acc.mt 1, rfl, rfl, rfl, by omega, by omega⟩
  rintro m ρ σ ⟨i, out, hA, g1, g3, g4, hi, rfl⟩
  by_cases hlt : i < n.ps.length
  · obtain ⟨s, hs⟩ : ∃ s, n.ps[i]? = some s := ⟨_, List.getElem?_eq_getElem hlt⟩
    simp only [go_sem, Nat.reduceBEq, Nat.reduceLT, Nat.reduceAdd, Nat.reduceMul, Nat.reduceSub, Nat.reduceLeDiff, decide_true, ne_eq, Nat.reduceEqDiff, not_false_eq_true, Classical.not_not, Int.lt_irrefl, false_implies, g1, g3, g4, hs]
    refine ⟨fun _ => ?_, fun h => by omega⟩
    refine hA.push (σ := []) (by simp) rfl (by omega) ⟨by simp; omega, by simp⟩ fun out' τ' hA' _ => ?_
    simp only [go_sem, Nat.reduceBEq, Nat.reduceLT, Nat.reduceAdd, Nat.reduceMul, Nat.reduceSub, Nat.reduceLeDiff, decide_true, ne_eq, Nat.reduceEqDiff, not_false_eq_true, Classical.not_not, Int.lt_irrefl, false_implies, g1, g3, g4]
    refine ⟨⟨by omega, by omega⟩, _, ?_, i + 1, out', ?_, rfl, rfl, rfl, by omega, rfl⟩
    · omega
    · rw [List.take_add_one, hs]; simpa [eI] using hA'
  · have : i = n.ps.length := by omega
    subst this
    simp only [go_sem, Nat.reduceBEq, Nat.reduceLT, Nat.reduceAdd, Nat.reduceMul, Nat.reduceSub, Nat.reduceLeDiff, decide_true, ne_eq, Nat.reduceEqDiff, not_false_eq_true, Classical.not_not, Int.lt_irrefl, false_implies, g1, g3, g4]
    rw [List.take_length] at hA
    refine LoopWp.by (fun m ρ σ => ∃ (i : Nat) (out : AV), Acc 1 ((n.ps.map (·.st) ++ (n.as.take i).map fun a => (a.nx.length : Int)).map eI) out σ ∧ get ρ 1 = .cptr (eN n) ∧ get ρ 3 = out ∧ get ρ 5 = .int i ∧ i ≤ n.as.length ∧ m = n.as.length - i) n.as.length ?_ ?_
    · exact ⟨0, out, by simpa using hA, rfl, rfl, rfl, by omega, by omega⟩
    rintro m ρ σ ⟨i, out, hA, g1, g3, g4, hi, rfl⟩
    by_cases hlt : i < n.as.length
    · obtain ⟨a, ha⟩ : ∃ a, n.as[i]? = some a := ⟨_, List.getElem?_eq_getElem hlt⟩
      simp only [go_sem, Nat.reduceBEq, Nat.reduceLT, Nat.reduceAdd, Nat.reduceMul, Nat.reduceSub, Nat.reduceLeDiff, decide_true, ne_eq, Nat.reduceEqDiff, not_false_eq_true, Classical.not_not, Int.lt_irrefl, false_implies, g1, g3, g4, ha]
      refine ⟨fun _ => ?_, fun h => by omega⟩
      refine hA.push (σ := []) (by simp) rfl (by omega) ⟨by simp; omega, by simp⟩ fun out' τ' hA' _ => ?_
      simp only [go_sem, Nat.reduceBEq, Nat.reduceLT, Nat.reduceAdd, Nat.reduceMul, Nat.reduceSub, Nat.reduceLeDiff, decide_true, ne_eq, Nat.reduceEqDiff, not_false_eq_true, Classical.not_not, Int.lt_irrefl, false_implies, g1, g3, g4]
      refine ⟨⟨by omega, by omega⟩, _, ?_, i + 1, out', ?_, rfl, rfl, rfl, by omega, rfl⟩
      · omega
      · rw [List.take_add_one, ha]; simpa [eI] using hA'
    · have : i = n.as.length := by omega
      subst this
      simp only [go_sem, Nat.reduceBEq, Nat.reduceLT, Nat.reduceAdd, Nat.reduceMul, Nat.reduceSub, Nat.reduceLeDiff, decide_true, ne_eq, Nat.reduceEqDiff, not_false_eq_true, Classical.not_not, Int.lt_irrefl, false_implies, g1, g3, g4]
      rw [List.take_length] at hA
      exact hA.sees
end Go.Proofs
end
section
/- Contracts: the spec's search, choices, digits. -/
namespace Go.Proofs
open Go.AX AG
variable {gl : Globs}
set_option maxRecDepth 10000
set_option linter.unusedSimpArgs false

theorem spec_l4Choices (n : Nt) (hn : NtOk n) (i : Nat) (hi : i < n.ps.length + n.as.length) (q l : Int) (hl : 0 ≤ l ∧ l < 6) (hq : n.ps.length ≤ i → ∀ a, n.as[i - n.ps.length]? = some a → 0 ≤ q ∧ q < a.nx.length) :
    Pure Tryz.prog gl 95 [.agg (eN n), .int i, .int q, .int l] (ints (choices n i q l)) := by
  have hlp := hn.lp
  have hla := hn.la
  refine Pure.of (callWp_of (cf := ⟨79, [0, 1, 2, 3, 4, 8, 9, 10, 11, 16, 38, 51, 69], [], [4, 13, 17, 20, 30, 42]⟩) (rs := [.tmp 8]) Tryz.func95 rfl (by decide) rfl rfl (by simp) ?_)
  simp only [go_sem, Nat.reduceBEq, Nat.reduceLT, Nat.reduceAdd, Nat.reduceMul, Nat.reduceSub, Nat.reduceLeDiff, decide_true, ne_eq, Nat.reduceEqDiff, not_false_eq_true, Classical.not_not, Int.lt_irrefl, false_implies]
  refine ⟨fun h => ?_, fun h => ?_⟩
  · have hip : n.ps.length ≤ i := by omega
    obtain ⟨a, ha⟩ : ∃ a, n.as[i - n.ps.length]? = some a := ⟨_, List.getElem?_eq_getElem (by omega)⟩
    have e : ((i : Int) - (n.ps.length : Nat)).toNat = i - n.ps.length := by omega
    simp only [go_sem, Nat.reduceBEq, Nat.reduceLT, Nat.reduceAdd, Nat.reduceMul, Nat.reduceSub, Nat.reduceLeDiff, decide_true, ne_eq, Nat.reduceEqDiff, not_false_eq_true, Classical.not_not, Int.lt_irrefl, false_implies, e, ha]
    refine ⟨⟨by omega, by omega⟩, by omega, ?_⟩
    refine (spec_l3Go a q l (hn.as a (List.mem_of_getElem? ha)) (hq hip a ha) hl).call ?_
    simp only [go_sem, Nat.reduceBEq, Nat.reduceLT, Nat.reduceAdd, Nat.reduceMul, Nat.reduceSub, Nat.reduceLeDiff, decide_true, ne_eq, Nat.reduceEqDiff, not_false_eq_true, Classical.not_not, Int.lt_irrefl, false_implies]
    rw [choices_a hip ha]
    exact Sees.refl _
  · have hip : i < n.ps.length := by omega
    obtain ⟨s, hs⟩ : ∃ s, n.ps[i]? = some s := ⟨_, List.getElem?_eq_getElem hip⟩
    obtain ⟨hok, hel⟩ := hn.ps s (List.mem_of_getElem? hs)
    have hal := sysOk_al hok
    simp only [go_sem, Nat.reduceBEq, Nat.reduceLT, Nat.reduceAdd, Nat.reduceMul, Nat.reduceSub, Nat.reduceLeDiff, decide_true, ne_eq, Nat.reduceEqDiff, not_false_eq_true, Classical.not_not, Int.lt_irrefl, false_implies, hs]
    refine (spec_l1Has s.al l (by omega) (by omega)).call ?_
    rw [choices_p hs]
    cases hh : hasL s.al l
    · simp only [go_sem, Nat.reduceBEq, Nat.reduceLT, Nat.reduceAdd, Nat.reduceMul, Nat.reduceSub, Nat.reduceLeDiff, decide_true, ne_eq, Nat.reduceEqDiff, not_false_eq_true, Classical.not_not, Int.lt_irrefl, false_implies]
      exact Sees.refl _
    · simp only [go_sem, Nat.reduceBEq, Nat.reduceLT, Nat.reduceAdd, Nat.reduceMul, Nat.reduceSub, Nat.reduceLeDiff, decide_true, ne_eq, Nat.reduceEqDiff, not_false_eq_true, Classical.not_not, Int.lt_irrefl, false_implies, hs]
      refine LoopWp.by (fun m ρ σ => ∃ (j : Nat) (out : AV), Acc 1 (((s.ed.take j).filter fun e => decide (e.fr = q) && decide (e.le = l)).map (fun e => eI e.to)) out σ ∧ get ρ 2 = .int q ∧ get ρ 3 = .int l ∧ get ρ 9 = out ∧ get ρ 10 = edges s.ed ∧ get ρ 11 = .int j ∧ j ≤ s.ed.length ∧ m = s.ed.length - j) s.ed.length ?_ ?_
      · exact ⟨0, .mt, Acc.mt 1, rfl, rfl, rfl, rfl, rfl, by omega, by omega⟩
      rintro m ρ σ ⟨j, out, hA, g2, g3, g9, g10, g11, hj, rfl⟩
      by_cases hlt : j < s.ed.length
      · obtain ⟨e, he⟩ : ∃ e, s.ed[j]? = some e := ⟨_, List.getElem?_eq_getElem hlt⟩
        have hlen : ((s.ed.take j).filter fun e => decide (e.fr = q) && decide (e.le = l)).length ≤ j := Nat.le_trans (List.length_filter_le _ _) (by simp; omega)
        have hf : (s.ed.take (j + 1)).filter (fun e => decide (e.fr = q) && decide (e.le = l)) = (s.ed.take j).filter (fun e => decide (e.fr = q) && decide (e.le = l)) ++ if (decide (e.fr = q) && decide (e.le = l)) = true then [e] else [] := by
          rw [List.take_add_one, he, List.filter_append]; simp [List.filter_cons]
        simp only [go_sem, Nat.reduceBEq, Nat.reduceLT, Nat.reduceAdd, Nat.reduceMul, Nat.reduceSub, Nat.reduceLeDiff, decide_true, ne_eq, Nat.reduceEqDiff, not_false_eq_true, Classical.not_not, Int.lt_irrefl, false_implies, g2, g3, g9, g10, g11, he]
        refine ⟨fun _ => ⟨fun h1 => ⟨fun h2 => ?_, fun h2 => ?_⟩, fun h1 => ?_⟩, fun h => by omega⟩
        · refine hA.push (σ := []) (by simp) rfl (by omega) ⟨by simp; omega, by simp⟩ fun out' τ' hA' _ => ?_
          simp only [go_sem, Nat.reduceBEq, Nat.reduceLT, Nat.reduceAdd, Nat.reduceMul, Nat.reduceSub, Nat.reduceLeDiff, decide_true, ne_eq, Nat.reduceEqDiff, not_false_eq_true, Classical.not_not, Int.lt_irrefl, false_implies, g2, g3, g9, g10, g11, he]
          refine ⟨⟨by omega, by omega⟩, _, ?_, j + 1, out', ?_, rfl, rfl, rfl, rfl, rfl, by omega, rfl⟩
          · omega
          · rw [hf, if_pos (by simp [h1, h2])]; simpa [eI] using hA'
        · refine ⟨⟨by omega, by omega⟩, _, ?_, j + 1, out, ?_, rfl, rfl, rfl, rfl, rfl, by omega, rfl⟩
          · omega
          · rw [hf, if_neg (by simp [h2])]; simpa using hA
        · refine ⟨⟨by omega, by omega⟩, _, ?_, j + 1, out, ?_, rfl, rfl, rfl, rfl, rfl, by omega, rfl⟩
          · omega
          · rw [hf, if_neg (by simp [h1])]; simpa using hA
      · have : j = s.ed.length := by omega
        subst this
        simp only [go_sem, Nat.reduceBEq, Nat.reduceLT, Nat.reduceAdd, Nat.reduceMul, Nat.reduceSub, Nat.reduceLeDiff, decide_true, ne_eq, Nat.reduceEqDiff, not_false_eq_true, Classical.not_not, Int.lt_irrefl, false_implies, g2, g3, g9, g10, g11]
        rw [List.take_length] at hA
        have := hA.sees (gl := gl) (σ := σ)
        simpa [succs, Function.comp_def, eI] using this
end Go.Proofs
end
section
/- Contracts: the spec's search, digits of a node. -/
namespace Go.Proofs
open Go.AX AG
variable {gl : Globs}
set_option maxRecDepth 10000
set_option linter.unusedSimpArgs false

theorem spec_l4Decode (sz : List Int) (n : Int) (hl : sz.length ≤ 1048576) (hn : 0 ≤ n ∧ n ≤ 1073741824) (hz : ∀ s ∈ sz, 0 < s) : Pure Tryz.prog gl 73 [ints sz, .int n] (ints (dec sz n)) := by
  refine Pure.own (callWp_of (cf := ⟨33, [0, 1, 4, 5, 6, 14], [9], []⟩) (rs := [.tmp 4]) Tryz.func73 rfl (by decide) rfl rfl (by simp) ?_)
  simp only [go_sem, Nat.reduceBEq, Nat.reduceLT, Nat.reduceAdd, Nat.reduceMul, Nat.reduceSub, Nat.reduceLeDiff, decide_true, ne_eq, Nat.reduceEqDiff, not_false_eq_true, Classical.not_not, Int.lt_irrefl, false_implies]
  refine ⟨⟨by omega, by omega, by omega⟩, fun b => ⟨⟨by omega, by omega⟩, ?_⟩⟩
  refine LoopWp.by (fun m ρ σ => get ρ 0 = ints sz ∧ get ρ 1 = .int (decR (sz.drop m) n).2 ∧ get ρ 5 = .msl b 0 sz.length sz.length ∧ get ρ 6 = .int ((m : Int) - 1) ∧ m ≤ sz.length ∧ σ = [(b, .own (List.replicate m (.int 0) ++ (decR (sz.drop m) n).1.map AV.int))]) sz.length ?_ ?_
  · refine ⟨rfl, ?_, rfl, rfl, Nat.le_refl _, ?_⟩
    · rw [List.drop_length]; rfl
    · rw [List.drop_length, reps_one]; simp [decR]
  rintro k ρ σ ⟨g0, g1, g5, g6, hk, rfl⟩
  cases k with
  | zero =>
    simp only [go_sem, Nat.reduceBEq, Nat.reduceLT, Nat.reduceAdd, Nat.reduceMul, Nat.reduceSub, Nat.reduceLeDiff, decide_true, ne_eq, Nat.reduceEqDiff, not_false_eq_true, Classical.not_not, Int.lt_irrefl, false_implies, g0, g1, g5, g6]
    refine ⟨fun h => by omega, fun h => ?_⟩
    have := Gh.ints (gl := gl) (b := b) (n := sz.length) (c := sz.length) (l := (decR sz n).1) (rest := []) (by rw [decR_length]) (Nat.le_refl _)
    rw [dec]
    simpa [ints] using this
  | succ k =>
    obtain ⟨s, hs⟩ : ∃ s, sz[k]? = some s := ⟨_, List.getElem?_eq_getElem (by omega)⟩
    have e : (((k + 1 : Nat) : Int) - 1).toNat = k := by omega
    have hnn := decR_nonneg (sz := sz.drop (k + 1)) (fun s hs => hz s (List.mem_of_mem_drop hs)) hn.1
    have hsp := hz s (List.mem_of_getElem? hs)
    simp only [go_sem, Nat.reduceBEq, Nat.reduceLT, Nat.reduceAdd, Nat.reduceMul, Nat.reduceSub, Nat.reduceLeDiff, decide_true, ne_eq, Nat.reduceEqDiff, not_false_eq_true, Classical.not_not, Int.lt_irrefl, false_implies, g0, g1, g5, g6, e, hs]
    refine ⟨fun h => ⟨by omega, ⟨by omega, by omega⟩, ⟨by omega, by omega⟩, by simp, by omega, ⟨by omega, by omega, by omega⟩, ⟨by omega, by omega⟩, k, by omega, rfl, ?_, rfl, ?_, by omega, ?_⟩, fun h => by omega⟩
    · rw [decR_drop hs]; rfl
    · simp only [AX.get, cond_true, cond_false, Nat.reduceBEq]; congr 2; omega
    · rw [decR_drop hs, List.replicate_succ']
      rw [splice_mid (pre := List.replicate k (.int 0)) (d := [.int 0]) (c := [_]) (by simp) (by simp)]
      simp
end Go.Proofs
end
section
/- Contracts: the spec's search, the nodes next to a node. -/
namespace Go.Proofs
open Go.AX AG
variable {gl : Globs}
set_option maxRecDepth 10000
set_option linter.unusedSimpArgs false

theorem spec_l4Nexts (n : Nt) (hn : NtOk n) (q : List Int) (hq : Vec n q) (l : Int) (hl : 0 ≤ l ∧ l < 6) : Pure Tryz.prog gl 87 [.agg (eN n), ints (szs n), ints q, .int l] (ints (nexts n q l)) := by
  have hlp := hn.lp
  have hla := hn.la
  have hql := hq.len
  have hzl := szs_len n
  refine Pure.of (callWp_of (cf := ⟨62, [0, 1, 2, 3, 4, 8, 9, 10, 11, 12, 13, 14, 19, 34, 40], [], [4]⟩) (rs := [.tmp 8]) Tryz.func87 rfl (by decide) rfl rfl (by simp) ?_)
  simp only [go_sem, Nat.reduceBEq, Nat.reduceLT, Nat.reduceAdd, Nat.reduceMul, Nat.reduceSub, Nat.reduceLeDiff, decide_true, ne_eq, Nat.reduceEqDiff, not_false_eq_true, Classical.not_not, Int.lt_irrefl, false_implies]
  refine LoopWp.byR (fun m ρ σ => ∃ (i : Nat), get ρ 1 = ints (szs n) ∧ get ρ 2 = ints q ∧ get ρ 3 = .int l ∧ get ρ 4 = .cptr (eN n) ∧ get ρ 9 = ints (nextsUp n q l i) ∧ get ρ 10 = .int i ∧ i ≤ q.length ∧ σ = [] ∧ m = q.length - i) q.length ?_ ?_
  · exact ⟨_, _, Recast.refl _ _, 0, rfl, rfl, rfl, rfl, rfl, rfl, by omega, rfl, by omega⟩
  rintro m ρ σ ⟨i, g1, g2, g3, g4, g9, g10, hi, rfl, rfl⟩
  by_cases hlt : i < q.length
  · obtain ⟨x, hx⟩ : ∃ x, q[i]? = some x := ⟨_, List.getElem?_eq_getElem hlt⟩
    obtain ⟨s, hs, hx0, hx1⟩ := hq.val i x hx
    have hc := choices_in hn hq hx hs hl
    have hs2 := szs_le hn hs
    have hnx := nextsUp_in hn hq hl (i := i) (by omega)
    have hpr := prd_pos hn (i := i) (by omega)
    have hp16 := pow16 (i := i) (by omega)
    simp only [go_sem, Nat.reduceBEq, Nat.reduceLT, Nat.reduceAdd, Nat.reduceMul, Nat.reduceSub, Nat.reduceLeDiff, decide_true, ne_eq, Nat.reduceEqDiff, not_false_eq_true, Classical.not_not, Int.lt_irrefl, false_implies, g1, g2, g3, g4, g9, g10, hx]
    refine ⟨fun _ => ?_, fun h => by omega⟩
    refine DrawK.text mixed (by kernel_rfl) ?_
    simp only [go_sem, Nat.reduceBEq, Nat.reduceLT, Nat.reduceAdd, Nat.reduceMul, Nat.reduceSub, Nat.reduceLeDiff, decide_true, ne_eq, Nat.reduceEqDiff, not_false_eq_true, Classical.not_not, Int.lt_irrefl, false_implies, g1, g2, g3, g4, g9, g10, hx]
    refine ⟨_, spec_l4Choices n hn i (by omega) x l hl (fun hip a ha => ?_), ?_⟩
    · rw [szs_a hip ha] at hs; cases hs; exact ⟨hx0, hx1⟩
    simp only [go_sem, Nat.reduceBEq, Nat.reduceLT, Nat.reduceAdd, Nat.reduceMul, Nat.reduceSub, Nat.reduceLeDiff, decide_true, ne_eq, Nat.reduceEqDiff, not_false_eq_true, Classical.not_not, Int.lt_irrefl, false_implies]
    generalize hC : choices n i x l = C at *
    generalize hO : nextsUp n q l i = O at *
    have hup : nextsUp n q l (i + 1) = O.flatMap fun o => C.map fun c => o * s + c := by
      simp only [nextsUp, hx, hs, Option.getD_some, hO, hC]
    refine LoopWp.by (fun m ρ σ => ∃ (k : Nat) (out : AV), Acc 1 (((O.take k).flatMap fun o => C.map fun c => o * s + c).map eI) out σ ∧ get ρ 1 = ints (szs n) ∧ get ρ 2 = ints q ∧ get ρ 3 = .int l ∧ get ρ 4 = .cptr (eN n) ∧ get ρ 9 = ints O ∧ get ρ 10 = .int i ∧ get ρ 11 = ints C ∧ get ρ 12 = out ∧ get ρ 13 = .int k ∧ k ≤ O.length ∧ m = O.length - k) O.length ?_ ?_
    · exact ⟨0, .mt, Acc.mt 1, rfl, rfl, rfl, rfl, rfl, rfl, rfl, rfl, rfl, by omega, by omega⟩
    rintro m ρ σ ⟨k, out, hA, g1, g2, g3, g4, g9, g10, g11, g12, g13, hk, rfl⟩
    by_cases hlt2 : k < O.length
    · obtain ⟨o, ho⟩ : ∃ o, O[k]? = some o := ⟨_, List.getElem?_eq_getElem hlt2⟩
      have ho2 := hnx.2 o (List.mem_of_getElem? ho)
      simp only [go_sem, Nat.reduceBEq, Nat.reduceLT, Nat.reduceAdd, Nat.reduceMul, Nat.reduceSub, Nat.reduceLeDiff, decide_true, ne_eq, Nat.reduceEqDiff, not_false_eq_true, Classical.not_not, Int.lt_irrefl, false_implies, g1, g2, g3, g4, g9, g10, g11, g12, g13]
      refine ⟨fun _ => ?_, fun h => by omega⟩
      refine LoopWp.by (fun m ρ σ => ∃ (j : Nat) (out : AV), Acc 1 (((O.take k).flatMap (fun o => C.map fun c => o * s + c) ++ (C.take j).map fun c => o * s + c).map eI) out σ ∧ get ρ 1 = ints (szs n) ∧ get ρ 2 = ints q ∧ get ρ 3 = .int l ∧ get ρ 4 = .cptr (eN n) ∧ get ρ 9 = ints O ∧ get ρ 10 = .int i ∧ get ρ 11 = ints C ∧ get ρ 12 = out ∧ get ρ 13 = .int k ∧ get ρ 14 = .int j ∧ j ≤ C.length ∧ m = C.length - j) C.length ?_ ?_
      · exact ⟨0, out, by simpa using hA, rfl, rfl, rfl, rfl, rfl, rfl, rfl, rfl, rfl, rfl, by omega, by omega⟩
      rintro m ρ σ ⟨j, out, hA, g1, g2, g3, g4, g9, g10, g11, g12, g13, g14, hj, rfl⟩
      have hlen : ((O.take k).flatMap fun o => C.map fun c => o * s + c).length ≤ k * 16 := by
        have key : ∀ (L : List Int), (L.flatMap fun o => C.map fun c => o * s + c).length ≤ L.length * 16 := by
          intro L
          induction L with
          | nil => simp
          | cons o L ihL => simp only [List.flatMap_cons, List.length_append, List.length_map, List.length_cons]; have := hc.1; omega
        have h1 := key (O.take k)
        rw [List.length_take, Nat.min_eq_left (by omega)] at h1
        exact h1
      by_cases hlt3 : j < C.length
      · obtain ⟨c, hcc⟩ : ∃ c, C[j]? = some c := ⟨_, List.getElem?_eq_getElem hlt3⟩
        have hc2 := hc.2 c (List.mem_of_getElem? hcc)
        have hb1 : 0 ≤ o * s ∧ o * s ≤ 1048576 * 16 := ⟨Int.mul_nonneg ho2.1 (by omega), Int.mul_le_mul (by omega) hs2.2 (by omega) (by omega)⟩
        simp only [go_sem, Nat.reduceBEq, Nat.reduceLT, Nat.reduceAdd, Nat.reduceMul, Nat.reduceSub, Nat.reduceLeDiff, decide_true, ne_eq, Nat.reduceEqDiff, not_false_eq_true, Classical.not_not, Int.lt_irrefl, false_implies, g1, g2, g3, g4, g9, g10, g11, g12, g13, g14]
        refine ⟨fun _ => ?_, fun h => by omega⟩
        refine DrawK.ord mixed [0, 1, 2, 3, 4, 5, 6, 7, 8, 9, 10, 11, 12, 13, 14, 15, 16, 17] (by kernel_rfl) ?_
        simp only [go_sem, Nat.reduceBEq, Nat.reduceLT, Nat.reduceAdd, Nat.reduceMul, Nat.reduceSub, Nat.reduceLeDiff, decide_true, ne_eq, Nat.reduceEqDiff, not_false_eq_true, Classical.not_not, Int.lt_irrefl, false_implies, g1, g2, g3, g4, g9, g10, g11, g12, g13, g14, ho, hs, hcc]
        refine ⟨⟨by omega, by omega⟩, ⟨by omega, by omega⟩, ?_⟩
        refine hA.push (σ := []) (by simp) rfl (by omega) ⟨by rw [List.length_map, List.length_append, List.length_map, List.length_take]; omega, by simp⟩ fun out' τ' hA' _ => ?_
        simp only [go_sem, Nat.reduceBEq, Nat.reduceLT, Nat.reduceAdd, Nat.reduceMul, Nat.reduceSub, Nat.reduceLeDiff, decide_true, ne_eq, Nat.reduceEqDiff, not_false_eq_true, Classical.not_not, Int.lt_irrefl, false_implies, g1, g2, g3, g4, g9, g10, g11, g12, g13, g14]
        refine ⟨⟨by omega, by omega⟩, _, ?_, j + 1, out', ?_, rfl, rfl, rfl, rfl, rfl, rfl, rfl, rfl, rfl, rfl, by omega, rfl⟩
        · omega
        · rw [List.take_add_one, hcc]; simpa [eI] using hA'
      · have : j = C.length := by omega
        subst this
        rw [List.take_length] at hA
        simp only [go_sem, Nat.reduceBEq, Nat.reduceLT, Nat.reduceAdd, Nat.reduceMul, Nat.reduceSub, Nat.reduceLeDiff, decide_true, ne_eq, Nat.reduceEqDiff, not_false_eq_true, Classical.not_not, Int.lt_irrefl, false_implies, g1, g2, g3, g4, g9, g10, g11, g12, g13, g14]
        refine ⟨⟨by omega, by omega⟩, _, ?_, k + 1, out, ?_, rfl, rfl, rfl, rfl, rfl, rfl, rfl, rfl, rfl, by omega, rfl⟩
        · omega
        · rw [List.take_add_one, ho]; simpa using hA
    · have : k = O.length := by omega
      subst this
      rw [List.take_length, ← hup] at hA
      simp only [go_sem, Nat.reduceBEq, Nat.reduceLT, Nat.reduceAdd, Nat.reduceMul, Nat.reduceSub, Nat.reduceLeDiff, decide_true, ne_eq, Nat.reduceEqDiff, not_false_eq_true, Classical.not_not, Int.lt_irrefl, false_implies, g1, g2, g3, g4, g9, g10, g11, g12, g13]
      have hR := fun ρ (h : get ρ 9 = out) => Recast.gh (gl := gl) (τ := σ) (σ := []) (k := 9) (ρ := ρ) h hA.gh
      simp only [List.append_nil] at hR
      refine ⟨⟨by omega, by omega⟩, _, _, hR _ rfl, _, ?_, i + 1, rfl, rfl, rfl, rfl, rfl, rfl, by omega, rfl, rfl⟩
      omega
  · have : i = q.length := by omega
    subst this
    simp only [go_sem, Nat.reduceBEq, Nat.reduceLT, Nat.reduceAdd, Nat.reduceMul, Nat.reduceSub, Nat.reduceLeDiff, decide_true, ne_eq, Nat.reduceEqDiff, not_false_eq_true, Classical.not_not, Int.lt_irrefl, false_implies, g1, g2, g3, g4, g9, g10]
    exact Sees.refl _
end Go.Proofs
end
section
/- Contracts: the spec's search, what is looked for. -/
namespace Go.Proofs
open Go.AX AG
variable {gl : Globs}
set_option maxRecDepth 10000
set_option linter.unusedSimpArgs false

theorem spec_l4Ok (n : Nt) (hn : NtOk n) (q : List Int) (hq : Vec n q) (i : Nat) (hi : i < n.as.length) : Pure Tryz.prog gl 88 [.agg (eN n), ints q, .int i] (.bool (okAt n q i)) := by
  have hlp := hn.lp
  have hla := hn.la
  have hql := hq.len
  obtain ⟨a, ha⟩ : ∃ a, n.as[i]? = some a := ⟨_, List.getElem?_eq_getElem hi⟩
  obtain ⟨x, hx⟩ : ∃ x, q[n.ps.length + i]? = some x := ⟨_, List.getElem?_eq_getElem (by omega)⟩
  obtain ⟨s, hs, hx0, hx1⟩ := hq.val _ x hx
  rw [szs_a (a := a) (by omega) (by rw [Nat.add_sub_cancel_left]; exact ha)] at hs
  cases hs
  have hal := autOk_len (hn.as a (List.mem_of_getElem? ha))
  obtain ⟨y, hy⟩ : ∃ y, a.ac[x.toNat]? = some y := ⟨_, List.getElem?_eq_getElem (by omega)⟩
  have e : ((n.ps.length : Int) + (i : Int)).toNat = n.ps.length + i := by omega
  refine callWp_of (cf := ⟨23, [0, 1, 2, 3, 6], [], [3, 7, 14]⟩) (rs := [.tmp 6]) Tryz.func88 rfl (by decide) rfl rfl (by simp) ?_
  simp only [go_sem, Nat.reduceBEq, Nat.reduceLT, Nat.reduceAdd, Nat.reduceMul, Nat.reduceSub, Nat.reduceLeDiff, decide_true, ne_eq, Nat.reduceEqDiff, not_false_eq_true, Classical.not_not, Int.lt_irrefl, false_implies]
  refine DrawK.text mixed (by kernel_rfl) ?_
  simp only [go_sem, Nat.reduceBEq, Nat.reduceLT, Nat.reduceAdd, Nat.reduceMul, Nat.reduceSub, Nat.reduceLeDiff, decide_true, ne_eq, Nat.reduceEqDiff, not_false_eq_true, Classical.not_not, Int.lt_irrefl, false_implies, ha, e, hx, hy]
  refine ⟨⟨by omega, by omega⟩, by omega, by omega, ?_⟩
  simp [okAt, ha, hx, hy]
end Go.Proofs
end
section
/- Contracts: the spec's search, the table of moves. -/
namespace Go.Proofs
open Go.AX AG
variable {gl : Globs}
set_option maxRecDepth 10000
set_option linter.unusedSimpArgs false

theorem spec_l4Moves (n : Nt) (hn : NtOk n) : Pure Tryz.prog gl 71 [.agg (eN n), ints (szs n), .int (total n)] (intsss (moves n)) := by
  have hlp := hn.lp
  have hla := hn.la
  have htot := prd_pos hn (Nat.le_refl (n.ps.length + n.as.length))
  have hp16 := pow16 (i := n.ps.length + n.as.length) (by omega)
  have hT : prd n (n.ps.length + n.as.length) = total n := rfl
  rw [hT] at htot
  refine Pure.of (callWp_of (cf := ⟨48, [0, 1, 2, 3, 6, 7, 8, 9, 10, 11, 12, 19, 29], [], [3, 14]⟩) (rs := [.tmp 6]) Tryz.func71 rfl (by decide) rfl rfl (by simp) ?_)
  simp only [go_sem, Nat.reduceBEq, Nat.reduceLT, Nat.reduceAdd, Nat.reduceMul, Nat.reduceSub, Nat.reduceLeDiff, decide_true, ne_eq, Nat.reduceEqDiff, not_false_eq_true, Classical.not_not, Int.lt_irrefl, false_implies]
  refine (spec_l1Letters n.al (by have := hn.al; omega)).call ?_
  simp only [go_sem, Nat.reduceBEq, Nat.reduceLT, Nat.reduceAdd, Nat.reduceMul, Nat.reduceSub, Nat.reduceLeDiff, decide_true, ne_eq, Nat.reduceEqDiff, not_false_eq_true, Classical.not_not, Int.lt_irrefl, false_implies]
  refine LoopWp.byR (fun m ρ σ => ∃ (k : Nat) (out : AV), Acc 1 (((List.range k).map (movesRow n)).map eLL) out σ ∧ get ρ 1 = ints (szs n) ∧ get ρ 2 = .int (total n) ∧ get ρ 3 = .cptr (eN n) ∧ get ρ 7 = out ∧ get ρ 8 = ints (letters n.al) ∧ get ρ 9 = .int k ∧ k ≤ (total n).toNat ∧ m = (total n).toNat - k) (total n).toNat ?_ ?_
  · exact ⟨_, _, Recast.refl _ _, 0, .mt, Acc.mt 1, rfl, rfl, rfl, rfl, rfl, rfl, by omega, by omega⟩
  rintro m ρ σ ⟨k, out, hA, g1, g2, g3, g7, g8, g9, hk, rfl⟩
  simp only [go_sem, Nat.reduceBEq, Nat.reduceLT, Nat.reduceAdd, Nat.reduceMul, Nat.reduceSub, Nat.reduceLeDiff, decide_true, ne_eq, Nat.reduceEqDiff, not_false_eq_true, Classical.not_not, Int.lt_irrefl, false_implies, g1, g2, g3, g7, g8, g9]
  refine ⟨fun h => ?_, fun h => ?_⟩
  · refine (spec_l4Decode (szs n) k (by rw [szs_len]; omega) ⟨by omega, by omega⟩ (szs_pos hn)).call ?_
    simp only [go_sem, Nat.reduceBEq, Nat.reduceLT, Nat.reduceAdd, Nat.reduceMul, Nat.reduceSub, Nat.reduceLeDiff, decide_true, ne_eq, Nat.reduceEqDiff, not_false_eq_true, Classical.not_not, Int.lt_irrefl, false_implies, g1, g2, g3, g7, g8, g9]
    have hL6 : (letters n.al).length ≤ 6 := lettersUp_length _ _
    refine LoopWp.byR (fun m ρ σ' => ∃ (j : Nat) (row : AV) (τ : Store), Acc 1 ((((letters n.al).take j).map fun l => nexts n (dec (szs n) k) l).map eL) row τ ∧ Dj τ σ ∧ σ' = τ ++ σ ∧ get ρ 1 = ints (szs n) ∧ get ρ 2 = .int (total n) ∧ get ρ 3 = .cptr (eN n) ∧ get ρ 7 = out ∧ get ρ 8 = ints (letters n.al) ∧ get ρ 9 = .int k ∧ get ρ 10 = ints (dec (szs n) k) ∧ get ρ 11 = row ∧ get ρ 12 = .int j ∧ j ≤ (letters n.al).length ∧ m = (letters n.al).length - j) (letters n.al).length ?_ ?_
    · exact ⟨_, _, Recast.refl _ _, 0, .mt, [], Acc.mt 1, Dj.nil _, rfl, rfl, rfl, rfl, rfl, rfl, rfl, rfl, rfl, rfl, by omega, by omega⟩
    rintro m ρ σ' ⟨j, row, τ, hR, hD, rfl, g1, g2, g3, g7, g8, g9, g10, g11, g12, hj, rfl⟩
    by_cases hlt : j < (letters n.al).length
    · obtain ⟨l, hl⟩ : ∃ l, (letters n.al)[j]? = some l := ⟨_, List.getElem?_eq_getElem hlt⟩
      have hl2 := letters_in (List.mem_of_getElem? hl)
      simp only [go_sem, Nat.reduceBEq, Nat.reduceLT, Nat.reduceAdd, Nat.reduceMul, Nat.reduceSub, Nat.reduceLeDiff, decide_true, ne_eq, Nat.reduceEqDiff, not_false_eq_true, Classical.not_not, Int.lt_irrefl, false_implies, g1, g2, g3, g7, g8, g9, g10, g11, g12]
      refine ⟨fun _ => ?_, fun h => by omega⟩
      refine DrawK.ord mixed [0, 1, 2, 3, 4, 5, 6, 7, 8, 9, 10, 11] (by kernel_rfl) ?_
      simp only [go_sem, Nat.reduceBEq, Nat.reduceLT, Nat.reduceAdd, Nat.reduceMul, Nat.reduceSub, Nat.reduceLeDiff, decide_true, ne_eq, Nat.reduceEqDiff, not_false_eq_true, Classical.not_not, Int.lt_irrefl, false_implies, g1, g2, g3, g7, g8, g9, g10, g11, g12, hl]
      refine ⟨_, spec_l4Nexts n hn (dec (szs n) k) (dec_vec hn (by omega)) l hl2.1, ?_⟩
      simp only [go_sem, Nat.reduceBEq, Nat.reduceLT, Nat.reduceAdd, Nat.reduceMul, Nat.reduceSub, Nat.reduceLeDiff, decide_true, ne_eq, Nat.reduceEqDiff, not_false_eq_true, Classical.not_not, Int.lt_irrefl, false_implies, g1, g2, g3, g7, g8, g9, g10, g11, g12]
      refine hR.push rfl rfl (by omega) ⟨by simp; omega, by simp⟩ fun out' τ' hR' hD' => ?_
      simp only [go_sem, Nat.reduceBEq, Nat.reduceLT, Nat.reduceAdd, Nat.reduceMul, Nat.reduceSub, Nat.reduceLeDiff, decide_true, ne_eq, Nat.reduceEqDiff, not_false_eq_true, Classical.not_not, Int.lt_irrefl, false_implies, g1, g2, g3, g7, g8, g9, g10, g11, g12]
      refine ⟨⟨by omega, by omega⟩, _, _, Recast.refl _ _, _, ?_, j + 1, out', τ', ?_, hD', rfl, rfl, rfl, rfl, rfl, rfl, rfl, rfl, rfl, rfl, by omega, rfl⟩
      · omega
      · rw [List.take_add_one, hl]; simpa [eL, ints] using hR'
    · have : j = (letters n.al).length := by omega
      subst this
      rw [List.take_length] at hR
      have hrow : (letters n.al).map (fun l => nexts n (dec (szs n) k) l) = movesRow n k := rfl
      rw [hrow] at hR
      have hRc := hR.cells
      simp only [go_sem, Nat.reduceBEq, Nat.reduceLT, Nat.reduceAdd, Nat.reduceMul, Nat.reduceSub, Nat.reduceLeDiff, decide_true, ne_eq, Nat.reduceEqDiff, not_false_eq_true, Classical.not_not, Int.lt_irrefl, false_implies, g1, g2, g3, g7, g8, g9, g10, g11, g12, hRc]
      refine hA.pushB (σ := []) hD (by simp) rfl (by omega) ⟨by simp; omega, by simp⟩ fun out' τ' hA' _ => ?_
      obtain ⟨out2, hA2, hS2⟩ := hA'.re (gl := gl) (σ := τ') (row' := eLL (movesRow n k)) ⟨hR.sees, trivial⟩
      simp only [go_sem, Nat.reduceBEq, Nat.reduceLT, Nat.reduceAdd, Nat.reduceMul, Nat.reduceSub, Nat.reduceLeDiff, decide_true, ne_eq, Nat.reduceEqDiff, not_false_eq_true, Classical.not_not, Int.lt_irrefl, false_implies, g1, g2, g3, g7, g8, g9]
      have hRc2 := fun ρ (h : get ρ 7 = out') => (Recast.turn (gl := gl) (ρ := ρ) (Turn.sub (List.sublist_append_left τ' (τ ++ [])))).trans (Recast.sees (k := 7) h hS2)
      simp only [List.append_nil] at hRc2
      refine ⟨⟨by omega, by omega⟩, _, _, hRc2 _ rfl, _, ?_, k + 1, out2, ?_, rfl, rfl, rfl, rfl, rfl, rfl, by omega, rfl⟩
      · omega
      · rw [List.range_succ, List.map_append, List.map_append]; exact hA2
  · have : k = (total n).toNat := by omega
    subst this
    exact hA.sees
end Go.Proofs
end
