/- Contracts of the functions that the law reaches. -/
import Derived.Test.YtgcglnaffdgpbaaGreatDoorWalkF
import Derived.Test.YtgcglnaffdgpbaaGreatDoorPlainB
import Derived.Test.YtgcglnaffdgpbaaGreatDoorRuleG
section
/- Contracts: the laws' measures. -/
namespace Go.Proofs
open Go.AX AG
variable {gl : Globs}
set_option maxRecDepth 10000
set_option linter.unusedSimpArgs false

theorem law_szEdgeS (es : List Ed) (k : Int) (hk : 0 ≤ k ∧ k ≤ 1048576) (hn : es.length ≤ 9223372036854775807) : Pure Tryz.prog gl 38 [edges es, .int k] (.int (szL es.length k)) := by
  refine callWp_of (cf := ⟨12, [0, 1, 4, 10], [], []⟩) (rs := [.tmp 4]) Tryz.func38 rfl (by decide) rfl rfl (by simp) ?_
  simp only [go_sem, Nat.reduceBEq, Nat.reduceLT, Nat.reduceAdd, Nat.reduceMul, Nat.reduceSub, Nat.reduceLeDiff, decide_true, ne_eq, Nat.reduceEqDiff, not_false_eq_true, Classical.not_not, Int.lt_irrefl, false_implies]
  refine ⟨⟨by omega, by omega⟩, fun h => ?_, fun h => ?_⟩
  · rw [szL, if_pos (by simpa using h)]
  · rw [szL, if_neg (by simpa using h)]
theorem law_szIntS (es : List Int) (k : Int) (hk : 0 ≤ k ∧ k ≤ 1048576) (hn : es.length ≤ 9223372036854775807) : Pure Tryz.prog gl 39 [ints es, .int k] (.int (szL es.length k)) := by
  refine callWp_of (cf := ⟨12, [0, 1, 4, 10], [], []⟩) (rs := [.tmp 4]) Tryz.func39 rfl (by decide) rfl rfl (by simp) ?_
  simp only [go_sem, Nat.reduceBEq, Nat.reduceLT, Nat.reduceAdd, Nat.reduceMul, Nat.reduceSub, Nat.reduceLeDiff, decide_true, ne_eq, Nat.reduceEqDiff, not_false_eq_true, Classical.not_not, Int.lt_irrefl, false_implies]
  refine ⟨⟨by omega, by omega⟩, fun h => ?_, fun h => ?_⟩
  · rw [szL, if_pos (by simpa using h)]
  · rw [szL, if_neg (by simpa using h)]
theorem law_szBoolS (es : List Bool) (k : Int) (hk : 0 ≤ k ∧ k ≤ 1048576) (hn : es.length ≤ 9223372036854775807) : Pure Tryz.prog gl 19 [bools es, .int k] (.int (szL es.length k)) := by
  refine callWp_of (cf := ⟨12, [0, 1, 4, 10], [], []⟩) (rs := [.tmp 4]) Tryz.func19 rfl (by decide) rfl rfl (by simp) ?_
  simp only [go_sem, Nat.reduceBEq, Nat.reduceLT, Nat.reduceAdd, Nat.reduceMul, Nat.reduceSub, Nat.reduceLeDiff, decide_true, ne_eq, Nat.reduceEqDiff, not_false_eq_true, Classical.not_not, Int.lt_irrefl, false_implies]
  refine ⟨⟨by omega, by omega⟩, fun h => ?_, fun h => ?_⟩
  · rw [szL, if_pos (by simpa using h)]
  · rw [szL, if_neg (by simpa using h)]
theorem law_szSystem (s : Ts) (k : Int) (hk : 0 ≤ k ∧ k ≤ 1048576) (hn : s.ed.length ≤ 9223372036854775807) : Pure Tryz.prog gl 17 [.agg (eS s), .int k] (.int (szL s.ed.length k)) := by
  refine callWp_of (cf := ⟨12, [0, 1, 2, 4, 10], [], [2, 5]⟩) (rs := [.tmp 4]) Tryz.func17 rfl (by decide) rfl rfl (by simp) ?_
  simp only [go_sem, Nat.reduceBEq, Nat.reduceLT, Nat.reduceAdd, Nat.reduceMul, Nat.reduceSub, Nat.reduceLeDiff, decide_true, ne_eq, Nat.reduceEqDiff, not_false_eq_true, Classical.not_not, Int.lt_irrefl, false_implies]
  refine (law_szEdgeS s.ed k hk hn).call ?_
  simp only [go_sem, Nat.reduceBEq, Nat.reduceLT, Nat.reduceAdd, Nat.reduceMul, Nat.reduceSub, Nat.reduceLeDiff, decide_true, ne_eq, Nat.reduceEqDiff, not_false_eq_true, Classical.not_not, Int.lt_irrefl, false_implies]
  exact fun h => by
    unfold szL at *; split at h
    · rw [if_pos (by assumption)]
    · omega
theorem law_szSystemS (l : List Ts) (k : Int) (hk : 0 ≤ k ∧ k ≤ 1048576) (hl : l.length ≤ 9223372036854775807) (hn : ∀ s ∈ l, s.ed.length ≤ 9223372036854775807) : Pure Tryz.prog gl 4 [systems l, .int k] (.int (szSys l k)) := by
  refine callWp_of (cf := ⟨27, [0, 1, 4, 5, 11, 15, 25], [], []⟩) (rs := [.tmp 4]) Tryz.func4 rfl (by decide) rfl rfl (by simp) ?_
  simp only [go_sem, Nat.reduceBEq, Nat.reduceLT, Nat.reduceAdd, Nat.reduceMul, Nat.reduceSub, Nat.reduceLeDiff, decide_true, ne_eq, Nat.reduceEqDiff, not_false_eq_true, Classical.not_not, Int.lt_irrefl, false_implies]
  refine ⟨⟨by omega, by omega⟩, fun h => ?_, fun h => ?_⟩
  · simp only [szSys, szNest, List.length_map, if_pos h]
  have hs : szSys l k = szAll (l.map fun s => s.ed.length) (k - l.length) := by simp only [szSys, szNest, List.length_map, if_neg h]
  rw [hs]
  refine LoopWp.by (fun m ρ σ => ∃ (i : Nat) (k' : Int), get ρ 0 = systems l ∧ get ρ 1 = .int k' ∧ get ρ 5 = .int i ∧ i ≤ l.length ∧ (0 ≤ k' ∧ k' ≤ 1048576) ∧ szAll ((l.map fun s => s.ed.length).drop i) k' = szAll (l.map fun s => s.ed.length) (k - l.length) ∧ σ = [] ∧ m = l.length - i) l.length ?_ ?_
  · exact ⟨0, _, rfl, rfl, rfl, by omega, ⟨by omega, by omega⟩, rfl, rfl, by omega⟩
  rintro m ρ σ ⟨i, k', g0, g1, g5, hi, hk', hz, rfl, rfl⟩
  by_cases hlt : i < l.length
  · obtain ⟨s, hs'⟩ : ∃ s, l[i]? = some s := ⟨_, List.getElem?_eq_getElem hlt⟩
    have hd : (l.map fun s => s.ed.length).drop i = s.ed.length :: (l.map fun s => s.ed.length).drop (i + 1) := by
      rw [List.drop_eq_getElem_cons (by simpa using hlt)]
      obtain ⟨h1, h2⟩ := List.getElem?_eq_some_iff.1 hs'
      simp [h2]
    rw [hd, szAll] at hz
    simp only [go_sem, Nat.reduceBEq, Nat.reduceLT, Nat.reduceAdd, Nat.reduceMul, Nat.reduceSub, Nat.reduceLeDiff, decide_true, ne_eq, Nat.reduceEqDiff, not_false_eq_true, Classical.not_not, Int.lt_irrefl, false_implies, g0, g1, g5, hs']
    refine ⟨fun _ => ?_, fun h => by omega⟩
    refine (law_szSystem s k' hk' (hn s (List.mem_of_getElem? hs'))).call ?_
    simp only [go_sem, Nat.reduceBEq, Nat.reduceLT, Nat.reduceAdd, Nat.reduceMul, Nat.reduceSub, Nat.reduceLeDiff, decide_true, ne_eq, Nat.reduceEqDiff, not_false_eq_true, Classical.not_not, Int.lt_irrefl, false_implies, g0, g5]
    refine ⟨fun h => ?_, fun h => ?_⟩
    · rw [if_pos h] at hz; rw [← hz]
    · rw [if_neg h] at hz
      have hok := szL_ok h
      refine ⟨⟨by omega, by omega⟩, _, ?_, i + 1, _, rfl, rfl, rfl, by omega, ⟨by omega, by omega⟩, hz, rfl, rfl⟩
      omega
  · have : i = l.length := by omega
    subst this
    rw [List.drop_of_length_le (by simp), szAll] at hz
    simp only [go_sem, Nat.reduceBEq, Nat.reduceLT, Nat.reduceAdd, Nat.reduceMul, Nat.reduceSub, Nat.reduceLeDiff, decide_true, ne_eq, Nat.reduceEqDiff, not_false_eq_true, Classical.not_not, Int.lt_irrefl, false_implies, g0, g1, g5]
    rw [hz]
theorem law_szIntSS (l : List (List Int)) (k : Int) (hk : 0 ≤ k ∧ k ≤ 1048576) (hl : l.length ≤ 9223372036854775807) (hn : ∀ s ∈ l, s.length ≤ 9223372036854775807) : Pure Tryz.prog gl 18 [intss l, .int k] (.int (szNest (l.map fun s => s.length) k)) := by
  refine callWp_of (cf := ⟨27, [0, 1, 4, 5, 11, 15, 25], [], []⟩) (rs := [.tmp 4]) Tryz.func18 rfl (by decide) rfl rfl (by simp) ?_
  simp only [go_sem, Nat.reduceBEq, Nat.reduceLT, Nat.reduceAdd, Nat.reduceMul, Nat.reduceSub, Nat.reduceLeDiff, decide_true, ne_eq, Nat.reduceEqDiff, not_false_eq_true, Classical.not_not, Int.lt_irrefl, false_implies]
  refine ⟨⟨by omega, by omega⟩, fun h => ?_, fun h => ?_⟩
  · simp only [szSys, szNest, List.length_map, if_pos h]
  have hs : szNest (l.map fun s => s.length) k = szAll (l.map fun s => s.length) (k - l.length) := by simp only [szSys, szNest, List.length_map, if_neg h]
  rw [hs]
  refine LoopWp.by (fun m ρ σ => ∃ (i : Nat) (k' : Int), get ρ 0 = intss l ∧ get ρ 1 = .int k' ∧ get ρ 5 = .int i ∧ i ≤ l.length ∧ (0 ≤ k' ∧ k' ≤ 1048576) ∧ szAll ((l.map fun s => s.length).drop i) k' = szAll (l.map fun s => s.length) (k - l.length) ∧ σ = [] ∧ m = l.length - i) l.length ?_ ?_
  · exact ⟨0, _, rfl, rfl, rfl, by omega, ⟨by omega, by omega⟩, rfl, rfl, by omega⟩
  rintro m ρ σ ⟨i, k', g0, g1, g5, hi, hk', hz, rfl, rfl⟩
  by_cases hlt : i < l.length
  · obtain ⟨s, hs'⟩ : ∃ s, l[i]? = some s := ⟨_, List.getElem?_eq_getElem hlt⟩
    have hd : (l.map fun s => s.length).drop i = s.length :: (l.map fun s => s.length).drop (i + 1) := by
      rw [List.drop_eq_getElem_cons (by simpa using hlt)]
      obtain ⟨h1, h2⟩ := List.getElem?_eq_some_iff.1 hs'
      simp [h2]
    rw [hd, szAll] at hz
    simp only [go_sem, Nat.reduceBEq, Nat.reduceLT, Nat.reduceAdd, Nat.reduceMul, Nat.reduceSub, Nat.reduceLeDiff, decide_true, ne_eq, Nat.reduceEqDiff, not_false_eq_true, Classical.not_not, Int.lt_irrefl, false_implies, g0, g1, g5, hs']
    refine ⟨fun _ => ?_, fun h => by omega⟩
    refine (law_szIntS s k' hk' (hn s (List.mem_of_getElem? hs'))).call ?_
    simp only [go_sem, Nat.reduceBEq, Nat.reduceLT, Nat.reduceAdd, Nat.reduceMul, Nat.reduceSub, Nat.reduceLeDiff, decide_true, ne_eq, Nat.reduceEqDiff, not_false_eq_true, Classical.not_not, Int.lt_irrefl, false_implies, g0, g5]
    refine ⟨fun h => ?_, fun h => ?_⟩
    · rw [if_pos h] at hz; rw [← hz]
    · rw [if_neg h] at hz
      have hok := szL_ok h
      refine ⟨⟨by omega, by omega⟩, _, ?_, i + 1, _, rfl, rfl, rfl, by omega, ⟨by omega, by omega⟩, hz, rfl, rfl⟩
      omega
  · have : i = l.length := by omega
    subst this
    rw [List.drop_of_length_le (by simp), szAll] at hz
    simp only [go_sem, Nat.reduceBEq, Nat.reduceLT, Nat.reduceAdd, Nat.reduceMul, Nat.reduceSub, Nat.reduceLeDiff, decide_true, ne_eq, Nat.reduceEqDiff, not_false_eq_true, Classical.not_not, Int.lt_irrefl, false_implies, g0, g1, g5]
    rw [hz]
theorem law_szAutomaton (p : Au) (k : Int) (hk : 0 ≤ k ∧ k ≤ 1048576) (h1 : p.nx.length ≤ 9223372036854775807) (h2 : ∀ r ∈ p.nx, r.length ≤ 9223372036854775807) (h3 : p.ac.length ≤ 9223372036854775807) : Pure Tryz.prog gl 5 [.agg (eA p), .int k] (.int (szAut p k)) := by
  refine callWp_of (cf := ⟨18, [0, 1, 2, 4, 10, 16], [], [2, 5, 11]⟩) (rs := [.tmp 4]) Tryz.func5 rfl (by decide) rfl rfl (by simp) ?_
  simp only [go_sem, Nat.reduceBEq, Nat.reduceLT, Nat.reduceAdd, Nat.reduceMul, Nat.reduceSub, Nat.reduceLeDiff, decide_true, ne_eq, Nat.reduceEqDiff, not_false_eq_true, Classical.not_not, Int.lt_irrefl, false_implies]
  refine (law_szIntSS p.nx k hk h1 h2).call ?_
  simp only [go_sem, Nat.reduceBEq, Nat.reduceLT, Nat.reduceAdd, Nat.reduceMul, Nat.reduceSub, Nat.reduceLeDiff, decide_true, ne_eq, Nat.reduceEqDiff, not_false_eq_true, Classical.not_not, Int.lt_irrefl, false_implies]
  refine ⟨fun h => ?_, fun h => ?_⟩
  · rw [szAut, if_pos h]
  rw [szAut, if_neg h]
  have hok := (szNest_ok h).2.2
  refine (law_szBoolS p.ac _ ⟨hok.1, by omega⟩ h3).call ?_
  simp only [go_sem, Nat.reduceBEq, Nat.reduceLT, Nat.reduceAdd, Nat.reduceMul, Nat.reduceSub, Nat.reduceLeDiff, decide_true, ne_eq, Nat.reduceEqDiff, not_false_eq_true, Classical.not_not, Int.lt_irrefl, false_implies]
  exact fun h => by
    unfold szL at *; split at h
    · rw [if_pos (by assumption)]
    · omega
end Go.Proofs
end
section
/- Contracts: the laws' copies. -/
namespace Go.Proofs
open Go.AX AG
variable {gl : Globs}
set_option maxRecDepth 10000
set_option linter.unusedSimpArgs false

theorem Buf.exact {sz n b : Nat} {xs : List (List AV)} (hn : n = xs.length) (h : AX.Rows sz xs) : Buf sz xs (.msl b 0 n n) [(b, .own xs.flatten)] := by
  subst hn
  exact .inr ⟨b, xs.length, [], rfl, by simp, Nat.le_refl _, by simp, h⟩
theorem reps_one (a : AV) : ∀ n, reps n [a] = List.replicate n a
  | 0 => rfl
  | n + 1 => by simp [reps, List.replicate_succ, reps_one a n]
theorem perm_snoc (p : Nat × AObj) (τ : Store) (Ts : List Store) : (p :: (Ts ++ [τ]).flatten).Perm (τ ++ p :: Ts.flatten) := by
  rw [List.flatten_append]
  simpa using List.perm_append_comm (l₁ := p :: Ts.flatten) (l₂ := τ)
theorem law_toEdge (e : Ed) : Pure Tryz.prog gl 63 [.agg (eE e)] (.agg (eE e)) := by
  refine Pure.own (callWp_of (cf := ⟨14, [0, 1, 2, 3], [], [1, 4, 7, 10]⟩) (rs := [.cell 2 55]) Tryz.func63 rfl (by decide) rfl rfl (by simp) ?_)
  simp only [go_sem, Nat.reduceBEq, Nat.reduceLT, Nat.reduceAdd, Nat.reduceMul, Nat.reduceSub, Nat.reduceLeDiff, decide_true, ne_eq, Nat.reduceEqDiff, not_false_eq_true, Classical.not_not, Int.lt_irrefl, false_implies]
  intro b2 b3 ⟨n1, n2⟩
  have f1 := beq_false_of_ne n1
  have f2 := beq_false_of_ne n2
  simp only [go_sem, Nat.reduceBEq, Nat.reduceLT, Nat.reduceAdd, Nat.reduceMul, Nat.reduceSub, Nat.reduceLeDiff, decide_true, ne_eq, Nat.reduceEqDiff, not_false_eq_true, Classical.not_not, Int.lt_irrefl, false_implies, f1, f2]
  exact Gh.sees (Sees.refl _) (List.nil_sublist _)
theorem law_toEdgeS (es : List Ed) (hl : es.length ≤ 1048576) : CallWp Tryz.prog gl 45 [edges es] [] fun r σ => ∃ b, r = .msl b 0 es.length es.length ∧ σ = [(b, .own (es.map eE).flatten)] := by
  refine callWp_of (cf := ⟨23, [0, 2, 3, 4, 11], [7], []⟩) (rs := [.tmp 2]) Tryz.func45 rfl (by decide) rfl rfl (by simp) ?_
  simp only [go_sem, Nat.reduceBEq, Nat.reduceLT, Nat.reduceAdd, Nat.reduceMul, Nat.reduceSub, Nat.reduceLeDiff, decide_true, ne_eq, Nat.reduceEqDiff, not_false_eq_true, Classical.not_not, Int.lt_irrefl, false_implies]
  refine ⟨⟨by omega, by omega, by omega⟩, fun b => ?_⟩
  refine LoopWp.by (fun m ρ σ => ∃ i : Nat, get ρ 0 = edges es ∧ get ρ 3 = .msl b 0 es.length es.length ∧ get ρ 4 = .int i ∧ i ≤ es.length ∧ σ = [(b, .own (((es.take i ++ List.replicate (es.length - i) (⟨0, 0, 0⟩ : Ed)).map eE).flatten))] ∧ m = es.length - i) es.length ?_ ?_
  · exact ⟨0, rfl, rfl, rfl, by omega, by rw [List.take_zero, List.nil_append, Nat.sub_zero, List.map_replicate, ← reps_flat]; rfl, by omega⟩
  rintro m ρ σ ⟨i, g0, g3, g4, hi, rfl, rfl⟩
  have hfl : ((es.take i ++ List.replicate (es.length - i) (⟨0, 0, 0⟩ : Ed)).map eE).flatten.length = es.length * 3 := by rw [flat_len (f := eE) (sz := 3) (fun _ => rfl)]; simp; omega
  by_cases hlt : i < es.length
  · obtain ⟨e, he⟩ : ∃ e, es[i]? = some e := ⟨_, List.getElem?_eq_getElem hlt⟩
    have hw := rows_write (f := eE) (sz := 3) (fun _ => rfl) (l := es.take i ++ List.replicate (es.length - i) (⟨0, 0, 0⟩ : Ed)) (i := i) (y := e) (by simp; omega)
    rw [take_fill he] at hw
    simp only [eE] at hw
    simp only [go_sem, Nat.reduceBEq, Nat.reduceLT, Nat.reduceAdd, Nat.reduceMul, Nat.reduceSub, Nat.reduceLeDiff, decide_true, ne_eq, Nat.reduceEqDiff, not_false_eq_true, Classical.not_not, Int.lt_irrefl, false_implies, g0, g3, g4, he, hfl]
    refine ⟨fun _ => ?_, fun h => by omega⟩
    refine (law_toEdge e).call ?_
    simp only [go_sem, Nat.reduceBEq, Nat.reduceLT, Nat.reduceAdd, Nat.reduceMul, Nat.reduceSub, Nat.reduceLeDiff, decide_true, ne_eq, Nat.reduceEqDiff, not_false_eq_true, Classical.not_not, Int.lt_irrefl, false_implies, g0, g3, g4, he, hfl, hw]
    refine ⟨by omega, by omega, ⟨by omega, by omega⟩, _, ?_, i + 1, rfl, rfl, rfl, by omega, rfl, rfl⟩
    omega
  · have : i = es.length := by omega
    subst this
    simp only [go_sem, Nat.reduceBEq, Nat.reduceLT, Nat.reduceAdd, Nat.reduceMul, Nat.reduceSub, Nat.reduceLeDiff, decide_true, ne_eq, Nat.reduceEqDiff, not_false_eq_true, Classical.not_not, Int.lt_irrefl, false_implies, g0, g3, g4]
    exact ⟨_, rfl, by rw [List.take_length, Nat.sub_self, List.replicate_zero, List.append_nil]⟩
theorem law_toIntS (es : List Int) (hl : es.length ≤ 1048576) : CallWp Tryz.prog gl 46 [ints es] [] fun r σ => ∃ b, r = .msl b 0 es.length es.length ∧ σ = [(b, .own (es.map AV.int))] := by
  refine callWp_of (cf := ⟨22, [0, 2, 3, 4, 11], [7], []⟩) (rs := [.tmp 2]) Tryz.func46 rfl (by decide) rfl rfl (by simp) ?_
  simp only [go_sem, Nat.reduceBEq, Nat.reduceLT, Nat.reduceAdd, Nat.reduceMul, Nat.reduceSub, Nat.reduceLeDiff, decide_true, ne_eq, Nat.reduceEqDiff, not_false_eq_true, Classical.not_not, Int.lt_irrefl, false_implies]
  refine ⟨⟨by omega, by omega, by omega⟩, fun b => ?_⟩
  refine LoopWp.by (fun m ρ σ => ∃ i : Nat, get ρ 0 = ints es ∧ get ρ 3 = .msl b 0 es.length es.length ∧ get ρ 4 = .int i ∧ i ≤ es.length ∧ σ = [(b, .own ((es.take i ++ List.replicate (es.length - i) (0 : Int)).map AV.int))] ∧ m = es.length - i) es.length ?_ ?_
  · exact ⟨0, rfl, rfl, rfl, by omega, by rw [List.take_zero, List.nil_append, Nat.sub_zero, List.map_replicate]; rw [← reps_one], by omega⟩
  rintro m ρ σ ⟨i, g0, g3, g4, hi, rfl, rfl⟩
  have hfl : ((es.take i ++ List.replicate (es.length - i) (0 : Int)).map AV.int).length = es.length := by simp; omega
  by_cases hlt : i < es.length
  · obtain ⟨e, he⟩ : ∃ e, es[i]? = some e := ⟨_, List.getElem?_eq_getElem hlt⟩
    have hw := own_write (f := AV.int) (l := es.take i ++ List.replicate (es.length - i) (0 : Int)) (i := i) (y := e) (by simp; omega)
    rw [take_fill he] at hw
    
    simp only [go_sem, Nat.reduceBEq, Nat.reduceLT, Nat.reduceAdd, Nat.reduceMul, Nat.reduceSub, Nat.reduceLeDiff, decide_true, ne_eq, Nat.reduceEqDiff, not_false_eq_true, Classical.not_not, Int.lt_irrefl, false_implies, g0, g3, g4, he, hfl, hw]
    refine ⟨fun _ => ⟨by omega, by omega, ⟨by omega, by omega⟩, _, ?_, i + 1, rfl, rfl, rfl, by omega, rfl, rfl⟩, fun h => by omega⟩
    omega
  · have : i = es.length := by omega
    subst this
    simp only [go_sem, Nat.reduceBEq, Nat.reduceLT, Nat.reduceAdd, Nat.reduceMul, Nat.reduceSub, Nat.reduceLeDiff, decide_true, ne_eq, Nat.reduceEqDiff, not_false_eq_true, Classical.not_not, Int.lt_irrefl, false_implies, g0, g3, g4]
    exact ⟨_, rfl, by rw [List.take_length, Nat.sub_self, List.replicate_zero, List.append_nil]⟩
theorem law_toBoolS (es : List Bool) (hl : es.length ≤ 1048576) : CallWp Tryz.prog gl 26 [bools es] [] fun r σ => ∃ b, r = .msl b 0 es.length es.length ∧ σ = [(b, .own (es.map AV.bool))] := by
  refine callWp_of (cf := ⟨22, [0, 2, 3, 4, 11], [7], []⟩) (rs := [.tmp 2]) Tryz.func26 rfl (by decide) rfl rfl (by simp) ?_
  simp only [go_sem, Nat.reduceBEq, Nat.reduceLT, Nat.reduceAdd, Nat.reduceMul, Nat.reduceSub, Nat.reduceLeDiff, decide_true, ne_eq, Nat.reduceEqDiff, not_false_eq_true, Classical.not_not, Int.lt_irrefl, false_implies]
  refine ⟨⟨by omega, by omega, by omega⟩, fun b => ?_⟩
  refine LoopWp.by (fun m ρ σ => ∃ i : Nat, get ρ 0 = bools es ∧ get ρ 3 = .msl b 0 es.length es.length ∧ get ρ 4 = .int i ∧ i ≤ es.length ∧ σ = [(b, .own ((es.take i ++ List.replicate (es.length - i) false).map AV.bool))] ∧ m = es.length - i) es.length ?_ ?_
  · exact ⟨0, rfl, rfl, rfl, by omega, by rw [List.take_zero, List.nil_append, Nat.sub_zero, List.map_replicate]; rw [← reps_one], by omega⟩
  rintro m ρ σ ⟨i, g0, g3, g4, hi, rfl, rfl⟩
  have hfl : ((es.take i ++ List.replicate (es.length - i) false).map AV.bool).length = es.length := by simp; omega
  by_cases hlt : i < es.length
  · obtain ⟨e, he⟩ : ∃ e, es[i]? = some e := ⟨_, List.getElem?_eq_getElem hlt⟩
    have hw := own_write (f := AV.bool) (l := es.take i ++ List.replicate (es.length - i) false) (i := i) (y := e) (by simp; omega)
    rw [take_fill he] at hw
    
    simp only [go_sem, Nat.reduceBEq, Nat.reduceLT, Nat.reduceAdd, Nat.reduceMul, Nat.reduceSub, Nat.reduceLeDiff, decide_true, ne_eq, Nat.reduceEqDiff, not_false_eq_true, Classical.not_not, Int.lt_irrefl, false_implies, g0, g3, g4, he, hfl, hw]
    refine ⟨fun _ => ⟨by omega, by omega, ⟨by omega, by omega⟩, _, ?_, i + 1, rfl, rfl, rfl, by omega, rfl, rfl⟩, fun h => by omega⟩
    omega
  · have : i = es.length := by omega
    subst this
    simp only [go_sem, Nat.reduceBEq, Nat.reduceLT, Nat.reduceAdd, Nat.reduceMul, Nat.reduceSub, Nat.reduceLeDiff, decide_true, ne_eq, Nat.reduceEqDiff, not_false_eq_true, Classical.not_not, Int.lt_irrefl, false_implies, g0, g3, g4]
    exact ⟨_, rfl, by rw [List.take_length, Nat.sub_self, List.replicate_zero, List.append_nil]⟩
theorem law_toSystem (s : Ts) (hl : s.ed.length ≤ 1048576) : CallWp Tryz.prog gl 24 [.agg (eS s)] [] fun r σ => ∃ x, r = .agg (r3 x) ∧ QSy s x σ := by
  refine CallWp.subP (callWp_of (cf := ⟨15, [0, 1, 2, 3], [12], [1, 4, 7, 10]⟩) (rs := [.cell 2 51]) Tryz.func24 rfl (by decide) rfl rfl (by simp) ?_)
  simp only [go_sem, Nat.reduceBEq, Nat.reduceLT, Nat.reduceAdd, Nat.reduceMul, Nat.reduceSub, Nat.reduceLeDiff, decide_true, ne_eq, Nat.reduceEqDiff, not_false_eq_true, Classical.not_not, Int.lt_irrefl, false_implies]
  intro b2 b3 ⟨n1, n2⟩
  have f1 := beq_false_of_ne n1
  have f2 := beq_false_of_ne n2
  refine CallWp.frame0 ((law_toEdgeS s.ed hl).mono ?_)
  rintro r σ ⟨b, rfl, rfl⟩ hd
  obtain ⟨⟨m2, m3⟩, ⟨m4, m5⟩, _⟩ := hd.head
  have f3 := beq_false_of_ne m3
  have f4 := beq_false_of_ne m5
  simp only [go_sem, Nat.reduceBEq, Nat.reduceLT, Nat.reduceAdd, Nat.reduceMul, Nat.reduceSub, Nat.reduceLeDiff, decide_true, ne_eq, Nat.reduceEqDiff, not_false_eq_true, Classical.not_not, Int.lt_irrefl, false_implies, f1, f2, f3, f4]
  exact ⟨[(b, _)], List.Sublist.cons_cons _ (List.nil_sublist _), (.int s.al, .int s.st, .msl b 0 s.ed.length s.ed.length), rfl, rfl, rfl, Buf.exact (by simp) (rows_eE _)⟩
theorem law_toSystemS (l : List (Ts)) (hl : l.length ≤ 1048576) (hs : ∀ s ∈ l, s.ed.length ≤ 1048576) : CallWp Tryz.prog gl 7 [systems l] [] fun r σ => ∃ b rows Ts, Nest QSy l rows Ts ∧ r = .msl b 0 l.length l.length ∧ σ = (b, .own ((rows.map r3).flatten)) :: Ts.flatten := by
  refine callWp_of (cf := ⟨23, [0, 2, 3, 4, 11], [7, 20], []⟩) (rs := [.tmp 2]) Tryz.func7 rfl (by decide) rfl rfl (by simp) ?_
  simp only [go_sem, Nat.reduceBEq, Nat.reduceLT, Nat.reduceAdd, Nat.reduceMul, Nat.reduceSub, Nat.reduceLeDiff, decide_true, ne_eq, Nat.reduceEqDiff, not_false_eq_true, Classical.not_not, Int.lt_irrefl, false_implies]
  refine ⟨⟨by omega, by omega, by omega⟩, fun b => ?_⟩
  refine LoopWp.byT (fun m ρ σ => ∃ (i : Nat) (rows : List (AV × AV × AV)) (Ts : List Store), Nest QSy (l.take i) rows Ts ∧ get ρ 0 = systems l ∧ get ρ 3 = .msl b 0 l.length l.length ∧ get ρ 4 = .int i ∧ i ≤ l.length ∧ σ = (b, .own (((rows ++ List.replicate (l.length - i) ((.int 0, .int 0, .nils) : AV × AV × AV)).map r3).flatten)) :: Ts.flatten ∧ m = l.length - i) l.length ?_ ?_
  · exact ⟨_, Turn.refl _, 0, [], [], by rw [List.take_zero]; exact Nest.nil, rfl, rfl, rfl, by omega, by rw [List.nil_append, Nat.sub_zero, List.map_replicate, ← reps_flat]; rfl, by omega⟩
  rintro m ρ σ ⟨i, rows, Ts, hN, g0, g3, g4, hi, rfl, rfl⟩
  have hrl : rows.length = i := by rw [hN.len1]; simp; omega
  have hfl : ((rows ++ List.replicate (l.length - i) ((.int 0, .int 0, .nils) : AV × AV × AV)).map r3).flatten.length = l.length * 3 := by rw [flat_len (f := r3) (sz := 3) (fun _ => rfl)]; simp; omega
  by_cases hlt : i < l.length
  · obtain ⟨s, hs'⟩ : ∃ s, l[i]? = some s := ⟨_, List.getElem?_eq_getElem hlt⟩
    have ht : l.take (i + 1) = l.take i ++ [s] := by rw [List.take_add_one, hs']; rfl
    simp only [go_sem, Nat.reduceBEq, Nat.reduceLT, Nat.reduceAdd, Nat.reduceMul, Nat.reduceSub, Nat.reduceLeDiff, decide_true, ne_eq, Nat.reduceEqDiff, not_false_eq_true, Classical.not_not, Int.lt_irrefl, false_implies, g0, g3, g4, hs', hfl]
    refine ⟨fun _ => ?_, fun h => by omega⟩
    refine CallWp.frame0 ((law_toSystem s (hs s (List.mem_of_getElem? hs'))).mono ?_)
    rintro r τ ⟨x, rfl, hq⟩ hd
    have hAw : Away b τ := Away.of hd (look_hd ..)
    have hw := rows_write (f := r3) (sz := 3) (fun _ => rfl) (l := rows ++ List.replicate (l.length - i) ((.int 0, .int 0, .nils) : AV × AV × AV)) (i := i) (y := x) (by simp; omega)
    rw [show l.length - i = (l.length - (i + 1)) + 1 by omega] at hw
    have hfs := fill_set rows ((.int 0, .int 0, .nils) : AV × AV × AV) x (l.length - (i + 1))
    rw [hrl] at hfs
    rw [hfs] at hw
    rw [← show l.length - i = (l.length - (i + 1)) + 1 by omega] at hw
    rw [show r3 x = [x.1, x.2.1, x.2.2] from rfl] at hw
    have hN2 := hN.snoc hq
    rw [← ht] at hN2
    simp only [go_sem, Nat.reduceBEq, Nat.reduceLT, Nat.reduceAdd, Nat.reduceMul, Nat.reduceSub, Nat.reduceLeDiff, decide_true, ne_eq, Nat.reduceEqDiff, not_false_eq_true, Classical.not_not, Int.lt_irrefl, false_implies, g0, g3, g4, hs', hfl, hAw.look, hAw.set, hw, r3]
    refine ⟨by omega, by omega, ⟨by omega, by omega⟩, _, Turn.perm (perm_snoc _ _ Ts), _, ?_, i + 1, rows ++ [x], Ts ++ [_], hN2, rfl, rfl, rfl, by omega, rfl, rfl⟩
    omega
  · have : i = l.length := by omega
    subst this
    simp only [go_sem, Nat.reduceBEq, Nat.reduceLT, Nat.reduceAdd, Nat.reduceMul, Nat.reduceSub, Nat.reduceLeDiff, decide_true, ne_eq, Nat.reduceEqDiff, not_false_eq_true, Classical.not_not, Int.lt_irrefl, false_implies, g0, g3, g4]
    rw [List.take_length] at hN
    exact ⟨_, rows, Ts, hN, rfl, by rw [Nat.sub_self, List.replicate_zero, List.append_nil]⟩
theorem law_toIntSS (l : List (List Int)) (hl : l.length ≤ 1048576) (hs : ∀ s ∈ l, s.length ≤ 1048576) : CallWp Tryz.prog gl 25 [intss l] [] fun r σ => ∃ b rows Ts, Nest QIs l rows Ts ∧ r = .msl b 0 l.length l.length ∧ σ = (b, .own (rows)) :: Ts.flatten := by
  refine callWp_of (cf := ⟨23, [0, 2, 3, 4, 11], [7, 20], []⟩) (rs := [.tmp 2]) Tryz.func25 rfl (by decide) rfl rfl (by simp) ?_
  simp only [go_sem, Nat.reduceBEq, Nat.reduceLT, Nat.reduceAdd, Nat.reduceMul, Nat.reduceSub, Nat.reduceLeDiff, decide_true, ne_eq, Nat.reduceEqDiff, not_false_eq_true, Classical.not_not, Int.lt_irrefl, false_implies]
  refine ⟨⟨by omega, by omega, by omega⟩, fun b => ?_⟩
  refine LoopWp.byT (fun m ρ σ => ∃ (i : Nat) (rows : List (AV)) (Ts : List Store), Nest QIs (l.take i) rows Ts ∧ get ρ 0 = intss l ∧ get ρ 3 = .msl b 0 l.length l.length ∧ get ρ 4 = .int i ∧ i ≤ l.length ∧ σ = (b, .own (rows ++ List.replicate (l.length - i) AV.nils)) :: Ts.flatten ∧ m = l.length - i) l.length ?_ ?_
  · exact ⟨_, Turn.refl _, 0, [], [], by rw [List.take_zero]; exact Nest.nil, rfl, rfl, rfl, by omega, by rw [List.nil_append, Nat.sub_zero, ← reps_one]; rfl, by omega⟩
  rintro m ρ σ ⟨i, rows, Ts, hN, g0, g3, g4, hi, rfl, rfl⟩
  have hrl : rows.length = i := by rw [hN.len1]; simp; omega
  have hfl : (rows ++ List.replicate (l.length - i) AV.nils).length = l.length := by simp; omega
  by_cases hlt : i < l.length
  · obtain ⟨s, hs'⟩ : ∃ s, l[i]? = some s := ⟨_, List.getElem?_eq_getElem hlt⟩
    have ht : l.take (i + 1) = l.take i ++ [s] := by rw [List.take_add_one, hs']; rfl
    simp only [go_sem, Nat.reduceBEq, Nat.reduceLT, Nat.reduceAdd, Nat.reduceMul, Nat.reduceSub, Nat.reduceLeDiff, decide_true, ne_eq, Nat.reduceEqDiff, not_false_eq_true, Classical.not_not, Int.lt_irrefl, false_implies, g0, g3, g4, hs', hfl]
    refine ⟨fun _ => ?_, fun h => by omega⟩
    refine CallWp.frame0 ((law_toIntS s (hs s (List.mem_of_getElem? hs'))).mono ?_)
    rintro r τ ⟨c, rfl, rfl⟩ hd
    obtain ⟨x, hx⟩ : ∃ x : AV, x = .msl c 0 s.length s.length := ⟨_, rfl⟩
    have hq : QIs s x [(c, .own (s.map AV.int))] := by rw [hx, ← flat_ints]; exact Buf.exact (by simp) (rows_eI _)
    have hcx : cellsOf x = some [x] := by rw [hx]; rfl
    have f3 := beq_false_of_ne hd.head.1.2
    rw [← hx]
    have hw := own_write (f := id) (l := rows ++ List.replicate (l.length - i) AV.nils) (i := i) (y := x) (by simp; omega)
    rw [show l.length - i = (l.length - (i + 1)) + 1 by omega] at hw
    have hfs := fill_set rows AV.nils x (l.length - (i + 1))
    rw [hrl] at hfs
    rw [hfs] at hw
    rw [← show l.length - i = (l.length - (i + 1)) + 1 by omega] at hw
    simp only [List.map_id, id] at hw
    have hN2 := hN.snoc hq
    rw [← ht] at hN2
    simp only [go_sem, Nat.reduceBEq, Nat.reduceLT, Nat.reduceAdd, Nat.reduceMul, Nat.reduceSub, Nat.reduceLeDiff, decide_true, ne_eq, Nat.reduceEqDiff, not_false_eq_true, Classical.not_not, Int.lt_irrefl, false_implies, g0, g3, g4, hs', hfl, hcx, f3, hw]
    refine ⟨by omega, by omega, ⟨by omega, by omega⟩, _, Turn.perm (perm_snoc _ _ Ts), _, ?_, i + 1, rows ++ [x], Ts ++ [_], hN2, rfl, rfl, rfl, by omega, rfl, rfl⟩
    omega
  · have : i = l.length := by omega
    subst this
    simp only [go_sem, Nat.reduceBEq, Nat.reduceLT, Nat.reduceAdd, Nat.reduceMul, Nat.reduceSub, Nat.reduceLeDiff, decide_true, ne_eq, Nat.reduceEqDiff, not_false_eq_true, Classical.not_not, Int.lt_irrefl, false_implies, g0, g3, g4]
    rw [List.take_length] at hN
    exact ⟨_, rows, Ts, hN, rfl, by rw [Nat.sub_self, List.replicate_zero, List.append_nil]⟩
end Go.Proofs
end
section
/- Contracts: the laws' copies, continued; their readings as data. -/
namespace Go.AX
open Go
section
variable {P : Program} {gl : Globs}
theorem CallWp.turnP {f : FuncId} {us : List AV} {σ0 : Store} {K : AV → Store → Prop} (h : CallWp P gl f us σ0 fun r σ => ∃ τ, Turn gl σ τ ∧ K r τ) : CallWp P gl f us σ0 K :=
  ⟨h.1, fun w M vs hI hr => (h.2 w M vs hI hr).mono fun _ _ ⟨v, M', r, σ', h1, ⟨τ, ht, hk⟩, h3, h4⟩ => by
    obtain ⟨M2, s2⟩ := ht _ M' h3.inv
    exact ⟨v, M2, r, τ, h1, hk, h3.trans s2, rep.keep s2.ext.keeps _ _ h4⟩⟩
end
end Go.AX
namespace Go.Proofs
open Go.AX AG
variable {gl : Globs}
set_option maxRecDepth 10000
set_option linter.unusedSimpArgs false

theorem law_toAutomaton (p : Au) (h1 : p.nx.length ≤ 1048576) (h2 : ∀ r ∈ p.nx, r.length ≤ 1048576) (h3 : p.ac.length ≤ 1048576) : CallWp Tryz.prog gl 8 [.agg (eA p)] [] fun r σ =>
    ∃ b c rows Ts, Nest QIs p.nx rows Ts ∧ r = .agg [.int p.al, .msl b 0 p.nx.length p.nx.length, .msl c 0 p.ac.length p.ac.length] ∧ σ = ((b, .own rows) :: Ts.flatten) ++ [(c, .own (p.ac.map AV.bool))] := by
  refine CallWp.turnP (callWp_of (cf := ⟨16, [0, 1, 2, 3], [9, 13], [1, 4, 7, 11]⟩) (rs := [.cell 2 33]) Tryz.func8 rfl (by decide) rfl rfl (by simp) ?_)
  simp only [go_sem, Nat.reduceBEq, Nat.reduceLT, Nat.reduceAdd, Nat.reduceMul, Nat.reduceSub, Nat.reduceLeDiff, decide_true, ne_eq, Nat.reduceEqDiff, not_false_eq_true, Classical.not_not, Int.lt_irrefl, false_implies]
  intro b2 b3 ⟨n1, n2⟩
  have f1 := beq_false_of_ne n1
  have f2 := beq_false_of_ne n2
  refine CallWp.frame0 ((law_toIntSS p.nx h1 h2).mono ?_)
  rintro r σ ⟨b, rows, Ts, hN, rfl, hσ⟩ hd
  have hA3 : Away b3 σ := Away.of hd (look_hd ..)
  have hA2 : Away b2 σ := Away.of hd (by rw [look_cons_ne f2]; exact look_hd ..)
  simp only [go_sem, Nat.reduceBEq, Nat.reduceLT, Nat.reduceAdd, Nat.reduceMul, Nat.reduceSub, Nat.reduceLeDiff, decide_true, ne_eq, Nat.reduceEqDiff, not_false_eq_true, Classical.not_not, Int.lt_irrefl, false_implies, f1, f2, hA3.look, hA3.set]
  refine CallWp.frame0 ((law_toBoolS p.ac h3).mono ?_)
  rintro r τ ⟨c, rfl, rfl⟩ hd2
  have m3 := beq_false_of_ne (fresh_ne hd2.head (k := b3) (by rw [hA3.look]; exact look_hd ..))
  have m2 := beq_false_of_ne (fresh_ne hd2.head (k := b2) (by rw [hA2.look, look_cons_ne f2]; exact look_hd ..))
  simp only [go_sem, Nat.reduceBEq, Nat.reduceLT, Nat.reduceAdd, Nat.reduceMul, Nat.reduceSub, Nat.reduceLeDiff, decide_true, ne_eq, Nat.reduceEqDiff, not_false_eq_true, Classical.not_not, Int.lt_irrefl, false_implies, f1, f2, hA3.look, hA3.set, hA2.look, hA2.set, m2, m3]
  refine ⟨σ ++ [(c, .own (p.ac.map AV.bool))], (Turn.sub (List.Sublist.cons_cons _ (List.sublist_append_left σ _))).trans (Turn.perm (List.perm_append_singleton _ σ)), b, c, rows, Ts, hN, rfl, by rw [hσ]; rfl⟩
theorem law_toSystemSP (l : List Ts) (hl : l.length ≤ 1048576) (hs : ∀ s ∈ l, s.ed.length ≤ 1048576) : Pure Tryz.prog gl 7 [systems l] (systems l) :=
  Pure.own ((law_toSystemS l hl hs).mono fun r σ ⟨b, rows, Ts, hN, hr, hσ⟩ => by subst hr hσ; exact hN.systems rfl)
theorem rows_eB (l : List Bool) : AX.Rows 1 (l.map eB) := Rows.map (f := eB) (fun _ => rfl) l
theorem flat_bools (l : List Bool) : (l.map eB).flatten = l.map AV.bool := by
  induction l with
  | nil => rfl
  | cons x l ih => simp only [List.map_cons, List.flatten_cons, ih]; rfl
/-- An automaton of the call's own, as data. -/
theorem own_automaton {p : Au} {b c : Nat} {rows : List AV} {Ts : List Store} (h : Nest QIs p.nx rows Ts) :
    Gh gl (((b, .own rows) :: Ts.flatten) ++ [(c, .own (p.ac.map AV.bool))]) (.agg [.int p.al, .msl b 0 p.nx.length p.nx.length, .msl c 0 p.ac.length p.ac.length]) [] (.agg (eA p)) := by
  have hb := Gh.rows (gl := gl) (b := c) (c := p.ac.length) (rest := []) (rows_eB p.ac) (by simp)
  rw [flat_bools, List.append_nil, List.length_map] at hb
  have := Gh.cons (Gh.of (gl := gl) (Sees.refl (.int p.al))) (Gh.cons (h.intss (gl := gl) (b := b) rfl) hb.all)
  exact GhAll.agg this
theorem law_toAutomatonP (p : Au) (h1 : p.nx.length ≤ 1048576) (h2 : ∀ r ∈ p.nx, r.length ≤ 1048576) (h3 : p.ac.length ≤ 1048576) : Pure Tryz.prog gl 8 [.agg (eA p)] (.agg (eA p)) :=
  Pure.own ((law_toAutomaton p h1 h2 h3).mono fun r σ ⟨b, c, rows, Ts, hN, hr, hσ⟩ => by subst hr hσ; exact own_automaton hN)
end Go.Proofs
end
section
/- Contracts: the laws' comparisons, at equals. -/
namespace Go.Proofs
open Go.AX AG
variable {gl : Globs}
set_option maxRecDepth 10000
set_option linter.unusedSimpArgs false

theorem law_eqEdge (e : Ed) : Pure Tryz.prog gl 32 [.agg (eE e), .agg (eE e)] (.bool true) := by
  refine callWp_of (cf := ⟨20, [0, 1, 2, 3, 4, 9, 14, 19], [], [2, 3, 5, 7, 10, 12, 15, 17]⟩) (rs := [.tmp 4]) Tryz.func32 rfl (by decide) rfl rfl (by simp) ?_
  simp only [go_sem, Nat.reduceBEq, Nat.reduceLT, Nat.reduceAdd, Nat.reduceMul, Nat.reduceSub, Nat.reduceLeDiff, decide_true, ne_eq, Nat.reduceEqDiff, not_false_eq_true, Classical.not_not, Int.lt_irrefl, false_implies, not_true_eq_false, false_imp_iff, true_and, decide_false]
theorem law_eqEdgeS (l : List (Ed)) (hl : l.length ≤ 1048576) : Pure Tryz.prog gl 10 [edges l, edges l] (.bool true) := by
  refine callWp_of (cf := ⟨27, [0, 1, 4, 5, 10, 14, 26], [], []⟩) (rs := [.tmp 4]) Tryz.func10 rfl (by decide) rfl rfl (by simp) ?_
  simp only [go_sem, Nat.reduceBEq, Nat.reduceLT, Nat.reduceAdd, Nat.reduceMul, Nat.reduceSub, Nat.reduceLeDiff, decide_true, ne_eq, Nat.reduceEqDiff, not_false_eq_true, Classical.not_not, Int.lt_irrefl, false_implies, not_true_eq_false, false_imp_iff, true_and, decide_false]
  refine LoopWp.by (fun m ρ σ => ∃ i : Nat, get ρ 0 = edges l ∧ get ρ 1 = edges l ∧ get ρ 5 = .int i ∧ i ≤ l.length ∧ σ = [] ∧ m = l.length - i) l.length ?_ ?_
  · exact ⟨0, rfl, rfl, rfl, by omega, rfl, by omega⟩
  rintro m ρ σ ⟨i, g0, g1, g5, hi, rfl, rfl⟩
  by_cases hlt : i < l.length
  · obtain ⟨s, hs'⟩ : ∃ s, l[i]? = some s := ⟨_, List.getElem?_eq_getElem hlt⟩
    simp only [go_sem, Nat.reduceBEq, Nat.reduceLT, Nat.reduceAdd, Nat.reduceMul, Nat.reduceSub, Nat.reduceLeDiff, decide_true, ne_eq, Nat.reduceEqDiff, not_false_eq_true, Classical.not_not, Int.lt_irrefl, false_implies, g0, g1, g5, hs', not_true_eq_false, false_imp_iff, true_and, decide_false]
    intro _
    refine DrawK.text mixed (by kernel_rfl) ?_
    simp only [go_sem, Nat.reduceBEq, Nat.reduceLT, Nat.reduceAdd, Nat.reduceMul, Nat.reduceSub, Nat.reduceLeDiff, decide_true, ne_eq, Nat.reduceEqDiff, not_false_eq_true, Classical.not_not, Int.lt_irrefl, false_implies, g0, g1, g5, hs', not_true_eq_false, false_imp_iff, true_and, decide_false]
    refine ⟨_, law_eqEdge s, ?_⟩
    simp only [go_sem, Nat.reduceBEq, Nat.reduceLT, Nat.reduceAdd, Nat.reduceMul, Nat.reduceSub, Nat.reduceLeDiff, decide_true, ne_eq, Nat.reduceEqDiff, not_false_eq_true, Classical.not_not, Int.lt_irrefl, false_implies, g0, g1, g5, not_true_eq_false, false_imp_iff, true_and, decide_false]
    refine ⟨⟨by omega, by omega⟩, _, ?_, i + 1, rfl, rfl, rfl, by omega, rfl, rfl⟩
    omega
  · have : i = l.length := by omega
    subst this
    simp only [go_sem, Nat.reduceBEq, Nat.reduceLT, Nat.reduceAdd, Nat.reduceMul, Nat.reduceSub, Nat.reduceLeDiff, decide_true, ne_eq, Nat.reduceEqDiff, not_false_eq_true, Classical.not_not, Int.lt_irrefl, false_implies, g0, g1, g5, not_true_eq_false, false_imp_iff, true_and, decide_false]
theorem law_eqSystem (s : Ts) (hl : s.ed.length ≤ 1048576) : Pure Tryz.prog gl 33 [.agg (eS s), .agg (eS s)] (.bool true) := by
  refine callWp_of (cf := ⟨21, [0, 1, 2, 3, 4, 9, 14, 20], [], [2, 3, 5, 7, 10, 12, 15, 17]⟩) (rs := [.tmp 4]) Tryz.func33 rfl (by decide) rfl rfl (by simp) ?_
  simp only [go_sem, Nat.reduceBEq, Nat.reduceLT, Nat.reduceAdd, Nat.reduceMul, Nat.reduceSub, Nat.reduceLeDiff, decide_true, ne_eq, Nat.reduceEqDiff, not_false_eq_true, Classical.not_not, Int.lt_irrefl, false_implies, not_true_eq_false, false_imp_iff, true_and, decide_false]
  refine (law_eqEdgeS s.ed hl).call ?_
  simp only [go_sem, Nat.reduceBEq, Nat.reduceLT, Nat.reduceAdd, Nat.reduceMul, Nat.reduceSub, Nat.reduceLeDiff, decide_true, ne_eq, Nat.reduceEqDiff, not_false_eq_true, Classical.not_not, Int.lt_irrefl, false_implies, not_true_eq_false, false_imp_iff, true_and, decide_false]
theorem law_eqSystemS (l : List (Ts)) (hl : l.length ≤ 1048576) (hs : ∀ s ∈ l, s.ed.length ≤ 1048576) : Pure Tryz.prog gl 11 [systems l, systems l] (.bool true) := by
  refine callWp_of (cf := ⟨27, [0, 1, 4, 5, 10, 14, 26], [], []⟩) (rs := [.tmp 4]) Tryz.func11 rfl (by decide) rfl rfl (by simp) ?_
  simp only [go_sem, Nat.reduceBEq, Nat.reduceLT, Nat.reduceAdd, Nat.reduceMul, Nat.reduceSub, Nat.reduceLeDiff, decide_true, ne_eq, Nat.reduceEqDiff, not_false_eq_true, Classical.not_not, Int.lt_irrefl, false_implies, not_true_eq_false, false_imp_iff, true_and, decide_false]
  refine LoopWp.by (fun m ρ σ => ∃ i : Nat, get ρ 0 = systems l ∧ get ρ 1 = systems l ∧ get ρ 5 = .int i ∧ i ≤ l.length ∧ σ = [] ∧ m = l.length - i) l.length ?_ ?_
  · exact ⟨0, rfl, rfl, rfl, by omega, rfl, by omega⟩
  rintro m ρ σ ⟨i, g0, g1, g5, hi, rfl, rfl⟩
  by_cases hlt : i < l.length
  · obtain ⟨s, hs'⟩ : ∃ s, l[i]? = some s := ⟨_, List.getElem?_eq_getElem hlt⟩
    simp only [go_sem, Nat.reduceBEq, Nat.reduceLT, Nat.reduceAdd, Nat.reduceMul, Nat.reduceSub, Nat.reduceLeDiff, decide_true, ne_eq, Nat.reduceEqDiff, not_false_eq_true, Classical.not_not, Int.lt_irrefl, false_implies, g0, g1, g5, hs', not_true_eq_false, false_imp_iff, true_and, decide_false]
    intro _
    refine DrawK.text mixed (by kernel_rfl) ?_
    simp only [go_sem, Nat.reduceBEq, Nat.reduceLT, Nat.reduceAdd, Nat.reduceMul, Nat.reduceSub, Nat.reduceLeDiff, decide_true, ne_eq, Nat.reduceEqDiff, not_false_eq_true, Classical.not_not, Int.lt_irrefl, false_implies, g0, g1, g5, hs', not_true_eq_false, false_imp_iff, true_and, decide_false]
    refine ⟨_, law_eqSystem s (hs s (List.mem_of_getElem? hs')), ?_⟩
    simp only [go_sem, Nat.reduceBEq, Nat.reduceLT, Nat.reduceAdd, Nat.reduceMul, Nat.reduceSub, Nat.reduceLeDiff, decide_true, ne_eq, Nat.reduceEqDiff, not_false_eq_true, Classical.not_not, Int.lt_irrefl, false_implies, g0, g1, g5, not_true_eq_false, false_imp_iff, true_and, decide_false]
    refine ⟨⟨by omega, by omega⟩, _, ?_, i + 1, rfl, rfl, rfl, by omega, rfl, rfl⟩
    omega
  · have : i = l.length := by omega
    subst this
    simp only [go_sem, Nat.reduceBEq, Nat.reduceLT, Nat.reduceAdd, Nat.reduceMul, Nat.reduceSub, Nat.reduceLeDiff, decide_true, ne_eq, Nat.reduceEqDiff, not_false_eq_true, Classical.not_not, Int.lt_irrefl, false_implies, g0, g1, g5, not_true_eq_false, false_imp_iff, true_and, decide_false]
theorem law_eqIntS (l : List (Int)) (hl : l.length ≤ 1048576) : Pure Tryz.prog gl 57 [ints l, ints l] (.bool true) := by
  refine callWp_of (cf := ⟨26, [0, 1, 4, 5, 10, 14, 25], [], []⟩) (rs := [.tmp 4]) Tryz.func57 rfl (by decide) rfl rfl (by simp) ?_
  simp only [go_sem, Nat.reduceBEq, Nat.reduceLT, Nat.reduceAdd, Nat.reduceMul, Nat.reduceSub, Nat.reduceLeDiff, decide_true, ne_eq, Nat.reduceEqDiff, not_false_eq_true, Classical.not_not, Int.lt_irrefl, false_implies, not_true_eq_false, false_imp_iff, true_and, decide_false]
  refine LoopWp.by (fun m ρ σ => ∃ i : Nat, get ρ 0 = ints l ∧ get ρ 1 = ints l ∧ get ρ 5 = .int i ∧ i ≤ l.length ∧ σ = [] ∧ m = l.length - i) l.length ?_ ?_
  · exact ⟨0, rfl, rfl, rfl, by omega, rfl, by omega⟩
  rintro m ρ σ ⟨i, g0, g1, g5, hi, rfl, rfl⟩
  by_cases hlt : i < l.length
  · obtain ⟨s, hs'⟩ : ∃ s, l[i]? = some s := ⟨_, List.getElem?_eq_getElem hlt⟩
    simp only [go_sem, Nat.reduceBEq, Nat.reduceLT, Nat.reduceAdd, Nat.reduceMul, Nat.reduceSub, Nat.reduceLeDiff, decide_true, ne_eq, Nat.reduceEqDiff, not_false_eq_true, Classical.not_not, Int.lt_irrefl, false_implies, g0, g1, g5, hs', not_true_eq_false, false_imp_iff, true_and, decide_false]
    intro _
    refine DrawK.text mixed (by kernel_rfl) ?_
    simp only [go_sem, Nat.reduceBEq, Nat.reduceLT, Nat.reduceAdd, Nat.reduceMul, Nat.reduceSub, Nat.reduceLeDiff, decide_true, ne_eq, Nat.reduceEqDiff, not_false_eq_true, Classical.not_not, Int.lt_irrefl, false_implies, g0, g1, g5, hs', not_true_eq_false, false_imp_iff, true_and, decide_false]
    refine ⟨⟨by omega, by omega⟩, _, ?_, i + 1, rfl, rfl, rfl, by omega, rfl, rfl⟩
    omega
  · have : i = l.length := by omega
    subst this
    simp only [go_sem, Nat.reduceBEq, Nat.reduceLT, Nat.reduceAdd, Nat.reduceMul, Nat.reduceSub, Nat.reduceLeDiff, decide_true, ne_eq, Nat.reduceEqDiff, not_false_eq_true, Classical.not_not, Int.lt_irrefl, false_implies, g0, g1, g5, not_true_eq_false, false_imp_iff, true_and, decide_false]
theorem law_eqIntSS (l : List (List Int)) (hl : l.length ≤ 1048576) (hs : ∀ s ∈ l, s.length ≤ 1048576) : Pure Tryz.prog gl 34 [intss l, intss l] (.bool true) := by
  refine callWp_of (cf := ⟨27, [0, 1, 4, 5, 10, 14, 26], [], []⟩) (rs := [.tmp 4]) Tryz.func34 rfl (by decide) rfl rfl (by simp) ?_
  simp only [go_sem, Nat.reduceBEq, Nat.reduceLT, Nat.reduceAdd, Nat.reduceMul, Nat.reduceSub, Nat.reduceLeDiff, decide_true, ne_eq, Nat.reduceEqDiff, not_false_eq_true, Classical.not_not, Int.lt_irrefl, false_implies, not_true_eq_false, false_imp_iff, true_and, decide_false]
  refine LoopWp.by (fun m ρ σ => ∃ i : Nat, get ρ 0 = intss l ∧ get ρ 1 = intss l ∧ get ρ 5 = .int i ∧ i ≤ l.length ∧ σ = [] ∧ m = l.length - i) l.length ?_ ?_
  · exact ⟨0, rfl, rfl, rfl, by omega, rfl, by omega⟩
  rintro m ρ σ ⟨i, g0, g1, g5, hi, rfl, rfl⟩
  by_cases hlt : i < l.length
  · obtain ⟨s, hs'⟩ : ∃ s, l[i]? = some s := ⟨_, List.getElem?_eq_getElem hlt⟩
    simp only [go_sem, Nat.reduceBEq, Nat.reduceLT, Nat.reduceAdd, Nat.reduceMul, Nat.reduceSub, Nat.reduceLeDiff, decide_true, ne_eq, Nat.reduceEqDiff, not_false_eq_true, Classical.not_not, Int.lt_irrefl, false_implies, g0, g1, g5, hs', not_true_eq_false, false_imp_iff, true_and, decide_false]
    intro _
    refine DrawK.text mixed (by kernel_rfl) ?_
    simp only [go_sem, Nat.reduceBEq, Nat.reduceLT, Nat.reduceAdd, Nat.reduceMul, Nat.reduceSub, Nat.reduceLeDiff, decide_true, ne_eq, Nat.reduceEqDiff, not_false_eq_true, Classical.not_not, Int.lt_irrefl, false_implies, g0, g1, g5, hs', not_true_eq_false, false_imp_iff, true_and, decide_false]
    refine ⟨_, law_eqIntS s (hs s (List.mem_of_getElem? hs')), ?_⟩
    simp only [go_sem, Nat.reduceBEq, Nat.reduceLT, Nat.reduceAdd, Nat.reduceMul, Nat.reduceSub, Nat.reduceLeDiff, decide_true, ne_eq, Nat.reduceEqDiff, not_false_eq_true, Classical.not_not, Int.lt_irrefl, false_implies, g0, g1, g5, not_true_eq_false, false_imp_iff, true_and, decide_false]
    refine ⟨⟨by omega, by omega⟩, _, ?_, i + 1, rfl, rfl, rfl, by omega, rfl, rfl⟩
    omega
  · have : i = l.length := by omega
    subst this
    simp only [go_sem, Nat.reduceBEq, Nat.reduceLT, Nat.reduceAdd, Nat.reduceMul, Nat.reduceSub, Nat.reduceLeDiff, decide_true, ne_eq, Nat.reduceEqDiff, not_false_eq_true, Classical.not_not, Int.lt_irrefl, false_implies, g0, g1, g5, not_true_eq_false, false_imp_iff, true_and, decide_false]
theorem law_eqBoolS (l : List (Bool)) (hl : l.length ≤ 1048576) : Pure Tryz.prog gl 35 [bools l, bools l] (.bool true) := by
  refine callWp_of (cf := ⟨26, [0, 1, 4, 5, 10, 14, 25], [], []⟩) (rs := [.tmp 4]) Tryz.func35 rfl (by decide) rfl rfl (by simp) ?_
  simp only [go_sem, Nat.reduceBEq, Nat.reduceLT, Nat.reduceAdd, Nat.reduceMul, Nat.reduceSub, Nat.reduceLeDiff, decide_true, ne_eq, Nat.reduceEqDiff, not_false_eq_true, Classical.not_not, Int.lt_irrefl, false_implies, not_true_eq_false, false_imp_iff, true_and, decide_false]
  refine LoopWp.by (fun m ρ σ => ∃ i : Nat, get ρ 0 = bools l ∧ get ρ 1 = bools l ∧ get ρ 5 = .int i ∧ i ≤ l.length ∧ σ = [] ∧ m = l.length - i) l.length ?_ ?_
  · exact ⟨0, rfl, rfl, rfl, by omega, rfl, by omega⟩
  rintro m ρ σ ⟨i, g0, g1, g5, hi, rfl, rfl⟩
  by_cases hlt : i < l.length
  · obtain ⟨s, hs'⟩ : ∃ s, l[i]? = some s := ⟨_, List.getElem?_eq_getElem hlt⟩
    simp only [go_sem, Nat.reduceBEq, Nat.reduceLT, Nat.reduceAdd, Nat.reduceMul, Nat.reduceSub, Nat.reduceLeDiff, decide_true, ne_eq, Nat.reduceEqDiff, not_false_eq_true, Classical.not_not, Int.lt_irrefl, false_implies, g0, g1, g5, hs', not_true_eq_false, false_imp_iff, true_and, decide_false]
    intro _
    refine DrawK.text mixed (by kernel_rfl) ?_
    simp only [go_sem, Nat.reduceBEq, Nat.reduceLT, Nat.reduceAdd, Nat.reduceMul, Nat.reduceSub, Nat.reduceLeDiff, decide_true, ne_eq, Nat.reduceEqDiff, not_false_eq_true, Classical.not_not, Int.lt_irrefl, false_implies, g0, g1, g5, hs', not_true_eq_false, false_imp_iff, true_and, decide_false]
    refine ⟨fun h => by simp at h, fun _ => ?_⟩
    refine ⟨⟨by omega, by omega⟩, _, ?_, i + 1, rfl, rfl, rfl, by omega, rfl, rfl⟩
    omega
  · have : i = l.length := by omega
    subst this
    simp only [go_sem, Nat.reduceBEq, Nat.reduceLT, Nat.reduceAdd, Nat.reduceMul, Nat.reduceSub, Nat.reduceLeDiff, decide_true, ne_eq, Nat.reduceEqDiff, not_false_eq_true, Classical.not_not, Int.lt_irrefl, false_implies, g0, g1, g5, not_true_eq_false, false_imp_iff, true_and, decide_false]
theorem law_eqAutomaton (p : Au) (h1 : p.nx.length ≤ 1048576) (h2 : ∀ r ∈ p.nx, r.length ≤ 1048576) (h3 : p.ac.length ≤ 1048576) : Pure Tryz.prog gl 12 [.agg (eA p), .agg (eA p)] (.bool true) := by
  refine callWp_of (cf := ⟨22, [0, 1, 2, 3, 4, 9, 15, 21], [], [2, 3, 5, 7, 10, 12, 16, 18]⟩) (rs := [.tmp 4]) Tryz.func12 rfl (by decide) rfl rfl (by simp) ?_
  simp only [go_sem, Nat.reduceBEq, Nat.reduceLT, Nat.reduceAdd, Nat.reduceMul, Nat.reduceSub, Nat.reduceLeDiff, decide_true, ne_eq, Nat.reduceEqDiff, not_false_eq_true, Classical.not_not, Int.lt_irrefl, false_implies, not_true_eq_false, false_imp_iff, true_and, decide_false]
  refine (law_eqIntSS p.nx h1 h2).call ?_
  simp only [go_sem, Nat.reduceBEq, Nat.reduceLT, Nat.reduceAdd, Nat.reduceMul, Nat.reduceSub, Nat.reduceLeDiff, decide_true, ne_eq, Nat.reduceEqDiff, not_false_eq_true, Classical.not_not, Int.lt_irrefl, false_implies, not_true_eq_false, false_imp_iff, true_and, decide_false]
  refine (law_eqBoolS p.ac h3).call ?_
  simp only [go_sem, Nat.reduceBEq, Nat.reduceLT, Nat.reduceAdd, Nat.reduceMul, Nat.reduceSub, Nat.reduceLeDiff, decide_true, ne_eq, Nat.reduceEqDiff, not_false_eq_true, Classical.not_not, Int.lt_irrefl, false_implies, not_true_eq_false, false_imp_iff, true_and, decide_false]
end Go.Proofs
end
