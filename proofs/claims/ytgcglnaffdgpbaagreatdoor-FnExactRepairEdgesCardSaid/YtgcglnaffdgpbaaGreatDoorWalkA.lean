/- Contracts of the functions that the law reaches. -/
import Derived.Test.YtgcglnaffdgpbaaGreatDoorTypes
import Derived.Test.YtgcglnaffdgpbaaGreatDoorRuleG
import Derived.Test.YtgcglnaffdgpbaaGreatDoorPlainA
section
/- Contracts of the functions on letters and alphabets. -/
namespace Go.Proofs
open Go.AX AG
variable {gl : Globs}
set_option maxRecDepth 10000
set_option linter.unusedSimpArgs false

theorem impl_isAlphabet (n : Int) : Pure Tryz.prog gl 50 [.int n] (.bool (isAlpha n)) := by
  refine callWp_of (cf := ⟨9, [0, 2], [], []⟩) (rs := [.tmp 2]) Tryz.func50 rfl (by decide) rfl rfl (by simp) ?_
  simp only [go_sem, Nat.reduceBEq, Nat.reduceLT, Nat.reduceAdd, Nat.reduceMul, Nat.reduceSub, Nat.reduceLeDiff, decide_true, ne_eq, Nat.reduceEqDiff, not_false_eq_true, Classical.not_not, Int.lt_irrefl, false_implies]
  refine ⟨fun h => ?_, fun h => ?_⟩ <;> simp [h, isAlpha]
theorem spec_l1Alphabet (n : Int) : Pure Tryz.prog gl 41 [.int n] (.bool (isAlpha n)) := by
  refine callWp_of (cf := ⟨9, [0, 2], [], []⟩) (rs := [.tmp 2]) Tryz.func41 rfl (by decide) rfl rfl (by simp) ?_
  simp only [go_sem, Nat.reduceBEq, Nat.reduceLT, Nat.reduceAdd, Nat.reduceMul, Nat.reduceSub, Nat.reduceLeDiff, decide_true, ne_eq, Nat.reduceEqDiff, not_false_eq_true, Classical.not_not, Int.lt_irrefl, false_implies]
  refine ⟨fun h => ?_, fun h => ?_⟩ <;> simp [h, isAlpha]
theorem impl_has (a n : Int) (ha : 0 ≤ a ∧ a < 9223372036854775808) (hn : n < 64) : Pure Tryz.prog gl 66 [.int a, .int n] (.bool (hasL a n)) := by
  have h1 := shr_nonneg ha.1 n.toNat
  have h2 := shr_le ha.1 n.toNat
  refine callWp_of (cf := ⟨14, [0, 1, 4], [], []⟩) (rs := [.tmp 4]) Tryz.func66 rfl (by decide) rfl rfl (by simp) ?_
  simp only [go_sem, Nat.reduceBEq, Nat.reduceLT, Nat.reduceAdd, Nat.reduceMul, Nat.reduceSub, Nat.reduceLeDiff, decide_true, ne_eq, Nat.reduceEqDiff, not_false_eq_true, Classical.not_not, Int.lt_irrefl, false_implies]
  refine ⟨fun h => ⟨by omega, by omega, ?_⟩, fun h => ?_⟩
  · rw [and_oneB h1]; simp [hasL, h]
  · simp [hasL, h]
theorem spec_l1Has (a n : Int) (ha : 0 ≤ a ∧ a < 9223372036854775808) (hn : 0 ≤ n ∧ n < 64) : Pure Tryz.prog gl 61 [.int a, .int n] (.bool (hasL a n)) := by
  have h1 := shr_nonneg ha.1 n.toNat
  have h2 := shr_le ha.1 n.toNat
  refine callWp_of (cf := ⟨11, [0, 1, 4], [], []⟩) (rs := [.tmp 4]) Tryz.func61 rfl (by decide) rfl rfl (by simp) ?_
  simp only [go_sem, Nat.reduceBEq, Nat.reduceLT, Nat.reduceAdd, Nat.reduceMul, Nat.reduceSub, Nat.reduceLeDiff, decide_true, ne_eq, Nat.reduceEqDiff, not_false_eq_true, Classical.not_not, Int.lt_irrefl, false_implies]
  rw [Go.IntWalk.u64_in n (by omega)]
  refine ⟨by omega, by omega, ?_⟩
  rw [and_oneB h1]; simp [hasL, hn.1]
theorem impl_lettersOf (a : Int) (ha : 0 ≤ a ∧ a < 9223372036854775808) : Pure Tryz.prog gl 51 [.int a] (ints (letters a)) := by
  refine Pure.of (callWp_of (cf := ⟨17, [0, 2, 3, 4, 5, 6, 10], [], []⟩) (rs := [.tmp 2]) Tryz.func51 rfl (by decide) rfl rfl (by simp) ?_)
  simp only [go_sem, Nat.reduceBEq, Nat.reduceLT, Nat.reduceAdd, Nat.reduceMul, Nat.reduceSub, Nat.reduceLeDiff, decide_true, ne_eq, Nat.reduceEqDiff, not_false_eq_true, Classical.not_not, Int.lt_irrefl, false_implies]
  refine LoopWp.by (fun m ρ σ => ∃ (k : Nat) (out x y z : AV), Acc 1 ((lettersUp a k).map eI) out σ ∧ k ≤ 6 ∧ m = 6 - k ∧ ρ = [(0, .int a), (2, .nils), (3, out), (4, x), (5, .int k), (6, y), (10, z)]) 6 ?_ ?_
  · exact ⟨0, _, _, _, _, Acc.nil 1, by omega, rfl, rfl⟩
  rintro m ρ σ ⟨k, out, x, y, z, hA, hk, rfl, rfl⟩
  simp only [go_sem, Nat.reduceBEq, Nat.reduceLT, Nat.reduceAdd, Nat.reduceMul, Nat.reduceSub, Nat.reduceLeDiff, decide_true, ne_eq, Nat.reduceEqDiff, not_false_eq_true, Classical.not_not, Int.lt_irrefl, false_implies]
  refine ⟨fun h => ?_, fun h => ?_⟩
  · refine (impl_has a k ha (by omega)).call ?_
    have hl := lettersUp_length a k
    have hs := lettersUp_succ a k
    simp only [go_sem, Nat.reduceBEq, Nat.reduceLT, Nat.reduceAdd, Nat.reduceMul, Nat.reduceSub, Nat.reduceLeDiff, decide_true, ne_eq, Nat.reduceEqDiff, not_false_eq_true, Classical.not_not, Int.lt_irrefl, false_implies]
    refine ⟨fun h1 => ?_, fun h1 => ?_⟩
    · rw [h1, if_pos rfl] at hs
      have := hA.append (te := ⟨.int .i64, 1, 8, [.int .i64 0]⟩) rfl (x := .list 1 [[.int k]]) (ys := [[.int k]]) (σ := []) (by simp only [go_sem, Nat.reduceBEq, Nat.reduceLT, Nat.reduceAdd, Nat.reduceMul, Nat.reduceSub, Nat.reduceLeDiff, decide_true, ne_eq, Nat.reduceEqDiff, not_false_eq_true, Classical.not_not, Int.lt_irrefl, false_implies]) (by simp) (by simp) (by simp; omega) (K := ?_) ?_
      rw [List.append_nil] at this
      exact this
      intro out' τ' hA' _
      simp only [go_sem, Nat.reduceBEq, Nat.reduceLT, Nat.reduceAdd, Nat.reduceMul, Nat.reduceSub, Nat.reduceLeDiff, decide_true, ne_eq, Nat.reduceEqDiff, not_false_eq_true, Classical.not_not, Int.lt_irrefl, false_implies]
      refine ⟨⟨by omega, by omega⟩, 6 - (k + 1), by omega, k + 1, _, _, _, _, ?_, by omega, rfl, rfl⟩
      rw [hs, List.map_append]; exact hA'
    · rw [h1, if_neg (by simp), List.append_nil] at hs
      refine ⟨⟨by omega, by omega⟩, 6 - (k + 1), by omega, k + 1, _, _, _, _, ?_, by omega, rfl, rfl⟩
      rw [hs]; exact hA
  · have : k = 6 := by omega
    subst this
    exact hA.sees
end Go.Proofs
end
section
/- Contracts of the spec's checks. -/
namespace Go.Proofs
open Go.AX AG
variable {gl : Globs}
set_option maxRecDepth 10000
set_option linter.unusedSimpArgs false

theorem spec_l2Edge (al st : Int) (e : Ed) (ha : 0 ≤ al ∧ al < 9223372036854775808) : Pure Tryz.prog gl 59 [.int al, .int st, .agg (eE e)] (.bool (edOk al st e)) := by
  refine callWp_of (cf := ⟨41, [0, 1, 2, 5, 6, 26], [], [5, 7, 11, 17, 22, 27, 31, 37]⟩) (rs := [.tmp 6]) Tryz.func59 rfl (by decide) rfl rfl (by simp) ?_
  simp only [go_sem, Nat.reduceBEq, Nat.reduceLT, Nat.reduceAdd, Nat.reduceMul, Nat.reduceSub, Nat.reduceLeDiff, decide_true, ne_eq, Nat.reduceEqDiff, not_false_eq_true, Classical.not_not, Int.lt_irrefl, false_implies]
  repeat' first | (with_reducible intro _) | (with_reducible refine And.intro ?_ ?_)
  all_goals first
    | (refine (spec_l1Has al e.le ha (by omega)).call ?_; simp only [go_sem, Nat.reduceBEq, Nat.reduceLT, Nat.reduceAdd, Nat.reduceMul, Nat.reduceSub, Nat.reduceLeDiff, decide_true, ne_eq, Nat.reduceEqDiff, not_false_eq_true, Classical.not_not, Int.lt_irrefl, false_implies]; simp_all [edOk]; done)
    | (simp_all [edOk]; done)
    | (simp_all [edOk]; omega)
theorem spec_l2Before (e f : Ed) : Pure Tryz.prog gl 60 [.agg (eE e), .agg (eE f)] (.bool (edLt e f)) := by
  refine callWp_of (cf := ⟨30, [0, 1, 2, 3, 4, 9, 19], [], [2, 3, 5, 7, 10, 12, 15, 17, 20, 22, 25, 27]⟩) (rs := [.tmp 4]) Tryz.func60 rfl (by decide) rfl rfl (by simp) ?_
  simp only [go_sem, Nat.reduceBEq, Nat.reduceLT, Nat.reduceAdd, Nat.reduceMul, Nat.reduceSub, Nat.reduceLeDiff, decide_true, ne_eq, Nat.reduceEqDiff, not_false_eq_true, Classical.not_not, Int.lt_irrefl, false_implies]
  repeat' first | (with_reducible intro _) | (with_reducible refine And.intro ?_ ?_)
  all_goals (simp_all [edLt])
end Go.Proofs
end
section
/- Contracts of the spec's checks of systems, automata and lists of parts. -/
namespace Go.Proofs
open Go.AX AG
variable {gl : Globs}
set_option maxRecDepth 10000
set_option linter.unusedSimpArgs false

theorem spec_SystemValid (s : Ts) (hn : s.ed.length ≤ 1048576) : Pure Tryz.prog gl 40 [.agg (eS s)] (.bool (sysOk s)) := by
  refine callWp_of (cf := ⟨55, [0, 1, 2, 3, 17, 22, 54], [], [1, 4, 9, 14, 19, 25, 27, 29, 40, 46]⟩) (rs := [.tmp 2]) Tryz.func40 rfl (by decide) rfl rfl (by simp) ?_
  simp only [go_sem, Nat.reduceBEq, Nat.reduceLT, Nat.reduceAdd, Nat.reduceMul, Nat.reduceSub, Nat.reduceLeDiff, decide_true, ne_eq, Nat.reduceEqDiff, not_false_eq_true, Classical.not_not, Int.lt_irrefl, false_implies]
  refine (spec_l1Alphabet s.al).call ?_
  simp only [go_sem, Nat.reduceBEq, Nat.reduceLT, Nat.reduceAdd, Nat.reduceMul, Nat.reduceSub, Nat.reduceLeDiff, decide_true, ne_eq, Nat.reduceEqDiff, not_false_eq_true, Classical.not_not, Int.lt_irrefl, false_implies]
  cases ha : isAlpha s.al
  · simp [sysOk, ha]
  have ha' := isAlpha_iff.1 ha
  simp only [go_sem, Nat.reduceBEq, Nat.reduceLT, Nat.reduceAdd, Nat.reduceMul, Nat.reduceSub, Nat.reduceLeDiff, decide_true, ne_eq, Nat.reduceEqDiff, not_false_eq_true, Classical.not_not, Int.lt_irrefl, false_implies]
  refine ⟨fun h1 => ?_, fun h1 => ⟨fun h2 => ?_, fun h2 => ?_⟩⟩
  · simp [sysOk, ha]; omega
  · simp [sysOk, ha]; omega
  · refine LoopWp.by (fun m ρ σ => ∃ i : Nat, get ρ 1 = .cptr (eS s) ∧ get ρ 3 = .int i ∧ i ≤ s.ed.length ∧ (List.range i).all (edAt s) = true ∧ σ = [] ∧ m = s.ed.length - i) s.ed.length ?_ ?_
    · exact ⟨0, rfl, rfl, by omega, by simp, rfl, by omega⟩
    rintro m ρ σ ⟨i, g1, g3, hi, hall, rfl, rfl⟩
    simp only [go_sem, Nat.reduceBEq, Nat.reduceLT, Nat.reduceAdd, Nat.reduceMul, Nat.reduceSub, Nat.reduceLeDiff, decide_true, ne_eq, Nat.reduceEqDiff, not_false_eq_true, Classical.not_not, Int.lt_irrefl, false_implies, g1, g3]
    refine ⟨fun h => ?_, fun h => ?_⟩
    · have hlt : i < s.ed.length := by omega
      obtain ⟨e, he⟩ : ∃ e, s.ed[i]? = some e := ⟨_, List.getElem?_eq_getElem hlt⟩
      have hpre : (((i : Int) - 1).toNat) = i - 1 := by omega
      have hpre0 : 0 < i → 0 ≤ (i : Int) - 1 := by omega
      refine DrawK.text mixed (by kernel_rfl) ?_
      simp only [go_sem, Nat.reduceBEq, Nat.reduceLT, Nat.reduceAdd, Nat.reduceMul, Nat.reduceSub, Nat.reduceLeDiff, decide_true, ne_eq, Nat.reduceEqDiff, not_false_eq_true, Classical.not_not, Int.lt_irrefl, false_implies, g1, g3, he]
      refine ⟨_, spec_l2Edge s.al s.st e (by omega), ?_⟩
      cases hok : edOk s.al s.st e
      · simp only [go_sem, Nat.reduceBEq, Nat.reduceLT, Nat.reduceAdd, Nat.reduceMul, Nat.reduceSub, Nat.reduceLeDiff, decide_true, ne_eq, Nat.reduceEqDiff, not_false_eq_true, Classical.not_not, Int.lt_irrefl, false_implies, g1, g3, hok]
        have : edAt s i = false := by simp [edAt, he, hok]
        simp [sysOk, all_range_false hlt this]
      simp only [go_sem, Nat.reduceBEq, Nat.reduceLT, Nat.reduceAdd, Nat.reduceMul, Nat.reduceSub, Nat.reduceLeDiff, decide_true, ne_eq, Nat.reduceEqDiff, not_false_eq_true, Classical.not_not, Int.lt_irrefl, false_implies, g1, g3]
      refine ⟨fun h3 => ?_, fun h3 => ?_⟩
      · obtain ⟨d, hd⟩ : ∃ d, s.ed[i - 1]? = some d := ⟨_, List.getElem?_eq_getElem (by omega)⟩
        simp only [go_sem, Nat.reduceBEq, Nat.reduceLT, Nat.reduceAdd, Nat.reduceMul, Nat.reduceSub, Nat.reduceLeDiff, decide_true, ne_eq, Nat.reduceEqDiff, not_false_eq_true, Classical.not_not, Int.lt_irrefl, false_implies, g1, g3, he, hpre, hd]
        refine ⟨⟨by omega, by omega⟩, by omega, _, spec_l2Before d e, ?_⟩
        have hed : edAt s i = edLt d e := by
          have : decide (i = 0) = false := by simp; omega
          simp [edAt, he, hok, hd, this]
        cases hlt2 : edLt d e
        · simp only [go_sem, Nat.reduceBEq, Nat.reduceLT, Nat.reduceAdd, Nat.reduceMul, Nat.reduceSub, Nat.reduceLeDiff, decide_true, ne_eq, Nat.reduceEqDiff, not_false_eq_true, Classical.not_not, Int.lt_irrefl, false_implies, g1, g3]
          have hf : edAt s i = false := by rw [hed]; exact hlt2
          simp [sysOk, all_range_false hlt hf]
        · simp only [go_sem, Nat.reduceBEq, Nat.reduceLT, Nat.reduceAdd, Nat.reduceMul, Nat.reduceSub, Nat.reduceLeDiff, decide_true, ne_eq, Nat.reduceEqDiff, not_false_eq_true, Classical.not_not, Int.lt_irrefl, false_implies, g1, g3]
          exact ⟨⟨by omega, by omega⟩, _, by omega, i + 1, rfl, rfl, by omega, by rw [all_range_succ, hall, hed, hlt2]; rfl, rfl, rfl⟩
      · have : i = 0 := by omega
        subst this
        exact ⟨⟨by omega, by omega⟩, _, by omega, 1, rfl, rfl, by omega, by simp [edAt, he, hok], rfl, rfl⟩
    · have : i = s.ed.length := by omega
      subst this
      simp only [sysOk, ha, hall]; simp; omega
end Go.Proofs
end
section
/- Contracts of the spec's checks of automata and lists of parts; letters. -/
namespace Go.Proofs
open Go.AX AG
variable {gl : Globs}
set_option maxRecDepth 10000
set_option linter.unusedSimpArgs false

theorem spec_l3Row (row : List Int) (k n : Nat) (hr : row.length ≤ 1048576) : Pure Tryz.prog gl 42 [ints row, .int k, .int n] (.bool (rowOk k n row)) := by
  refine callWp_of (cf := ⟨31, [0, 1, 2, 6, 7, 11, 15, 30], [], []⟩) (rs := [.tmp 6]) Tryz.func42 rfl (by decide) rfl rfl (by simp) ?_
  simp only [go_sem, Nat.reduceBEq, Nat.reduceLT, Nat.reduceAdd, Nat.reduceMul, Nat.reduceSub, Nat.reduceLeDiff, decide_true, ne_eq, Nat.reduceEqDiff, not_false_eq_true, Classical.not_not, Int.lt_irrefl, false_implies]
  refine ⟨fun h => ?_, fun h => ?_⟩
  · have : decide (row.length = k) = false := by simp; omega
    simp [rowOk, this]
  · have hk : decide (row.length = k) = true := by simp; omega
    refine LoopWp.by (fun m ρ σ => ∃ i : Nat, get ρ 0 = ints row ∧ get ρ 2 = .int n ∧ get ρ 7 = .int i ∧ i ≤ row.length ∧ (row.take i).all (inB n) = true ∧ σ = [] ∧ m = row.length - i) row.length ?_ ?_
    · exact ⟨0, rfl, rfl, rfl, by omega, by simp, rfl, by omega⟩
    rintro m ρ σ ⟨i, g0, g2, g7, hi, hall, rfl, rfl⟩
    by_cases hlt : i < row.length
    · obtain ⟨x, hx⟩ : ∃ x, row[i]? = some x := ⟨_, List.getElem?_eq_getElem hlt⟩
      simp only [go_sem, Nat.reduceBEq, Nat.reduceLT, Nat.reduceAdd, Nat.reduceMul, Nat.reduceSub, Nat.reduceLeDiff, decide_true, ne_eq, Nat.reduceEqDiff, not_false_eq_true, Classical.not_not, Int.lt_irrefl, false_implies, g0, g2, g7, hx]
      refine ⟨fun _ => ⟨fun h1 => ?_, fun h1 => ⟨fun h2 => ?_, fun h2 => ?_⟩⟩, fun h => by omega⟩
      · have : inB n x = false := by simp [inB]; omega
        simp [rowOk, all_false hx this]
      · have : inB n x = false := by simp [inB]; omega
        simp [rowOk, all_false hx this]
      · exact ⟨⟨by omega, by omega⟩, _, by omega, i + 1, rfl, rfl, rfl, by omega, by rw [all_take_succ hx, hall]; simp [inB]; omega, rfl, rfl⟩
    · have : i = row.length := by omega
      subst this
      simp only [go_sem, Nat.reduceBEq, Nat.reduceLT, Nat.reduceAdd, Nat.reduceMul, Nat.reduceSub, Nat.reduceLeDiff, decide_true, ne_eq, Nat.reduceEqDiff, not_false_eq_true, Classical.not_not, Int.lt_irrefl, false_implies, g0, g2, g7]
      rw [List.take_length] at hall
      simp only [rowOk, hk, hall, Bool.and_self]

theorem spec_l1Letters (a : Int) (ha : 0 ≤ a ∧ a < 9223372036854775808) : Pure Tryz.prog gl 43 [.int a] (ints (letters a)) := by
  refine Pure.of (callWp_of (cf := ⟨18, [0, 2, 3, 4, 7, 12], [], []⟩) (rs := [.tmp 2]) Tryz.func43 rfl (by decide) rfl rfl (by simp) ?_)
  simp only [go_sem, Nat.reduceBEq, Nat.reduceLT, Nat.reduceAdd, Nat.reduceMul, Nat.reduceSub, Nat.reduceLeDiff, decide_true, ne_eq, Nat.reduceEqDiff, not_false_eq_true, Classical.not_not, Int.lt_irrefl, false_implies]
  refine LoopWp.by (fun m ρ σ => ∃ (k : Nat) (out : AV), Acc 1 ((lettersUp a k).map eI) out σ ∧ k ≤ 6 ∧ m = 6 - k ∧ get ρ 0 = .int a ∧ get ρ 3 = out ∧ get ρ 4 = .int k) 6 ?_ ?_
  · exact ⟨0, _, Acc.mt 1, by omega, rfl, rfl, rfl, rfl⟩
  rintro m ρ σ ⟨k, out, hA, hk, rfl, g0, g3, g4⟩
  simp only [go_sem, Nat.reduceBEq, Nat.reduceLT, Nat.reduceAdd, Nat.reduceMul, Nat.reduceSub, Nat.reduceLeDiff, decide_true, ne_eq, Nat.reduceEqDiff, not_false_eq_true, Classical.not_not, Int.lt_irrefl, false_implies, g0, g3, g4]
  refine ⟨fun h => ?_, fun h => ?_⟩
  · refine (spec_l1Has a k ha (by omega)).call ?_
    have hl := lettersUp_length a k
    have hs := lettersUp_succ a k
    simp only [go_sem, Nat.reduceBEq, Nat.reduceLT, Nat.reduceAdd, Nat.reduceMul, Nat.reduceSub, Nat.reduceLeDiff, decide_true, ne_eq, Nat.reduceEqDiff, not_false_eq_true, Classical.not_not, Int.lt_irrefl, false_implies, g0, g3, g4]
    refine ⟨fun h1 => ?_, fun h1 => ?_⟩
    · rw [h1, if_pos rfl] at hs
      refine hA.push (σ := []) (by simp) rfl (by omega) ⟨by simp; omega, by simp⟩ fun out' τ' hA' _ => ?_
      simp only [go_sem, Nat.reduceBEq, Nat.reduceLT, Nat.reduceAdd, Nat.reduceMul, Nat.reduceSub, Nat.reduceLeDiff, decide_true, ne_eq, Nat.reduceEqDiff, not_false_eq_true, Classical.not_not, Int.lt_irrefl, false_implies, g0, g3, g4]
      refine ⟨⟨by omega, by omega⟩, 6 - (k + 1), by omega, k + 1, _, ?_, by omega, rfl, rfl, rfl, rfl⟩
      rw [hs, List.map_append]; exact hA'
    · rw [h1, if_neg (by simp), List.append_nil] at hs
      refine ⟨⟨by omega, by omega⟩, 6 - (k + 1), by omega, k + 1, _, ?_, by omega, rfl, rfl, rfl, rfl⟩
      rw [hs]; exact hA
  · have : k = 6 := by omega
    subst this
    exact hA.sees
theorem spec_l1Place (a n : Int) (ha : 0 ≤ a ∧ a < 9223372036854775808) (hn : 0 ≤ n ∧ n < 64) : Pure Tryz.prog gl 102 [.int a, .int n] (.int ((lettersUp a n.toNat).length : Nat)) := by
  refine callWp_of (cf := ⟨18, [0, 1, 4, 5, 6, 9, 14], [], []⟩) (rs := [.tmp 4]) Tryz.func102 rfl (by decide) rfl rfl (by simp) ?_
  simp only [go_sem, Nat.reduceBEq, Nat.reduceLT, Nat.reduceAdd, Nat.reduceMul, Nat.reduceSub, Nat.reduceLeDiff, decide_true, ne_eq, Nat.reduceEqDiff, not_false_eq_true, Classical.not_not, Int.lt_irrefl, false_implies]
  refine LoopWp.by (fun m ρ σ => ∃ i : Nat, get ρ 0 = .int a ∧ get ρ 1 = .int n ∧ get ρ 5 = .int ((lettersUp a i).length : Nat) ∧ get ρ 6 = .int i ∧ i ≤ n ∧ σ = [] ∧ m = n.toNat - i) n.toNat ?_ ?_
  · exact ⟨0, rfl, rfl, rfl, rfl, by omega, rfl, by omega⟩
  rintro m ρ σ ⟨i, g0, g1, g5, g6, hi, rfl, rfl⟩
  simp only [go_sem, Nat.reduceBEq, Nat.reduceLT, Nat.reduceAdd, Nat.reduceMul, Nat.reduceSub, Nat.reduceLeDiff, decide_true, ne_eq, Nat.reduceEqDiff, not_false_eq_true, Classical.not_not, Int.lt_irrefl, false_implies, g0, g1, g5, g6]
  refine ⟨fun h => ?_, fun h => ?_⟩
  · refine (spec_l1Has a i ha (by omega)).call ?_
    have hs := lettersUp_succ a i
    have hl := lettersUp_length a i
    simp only [go_sem, Nat.reduceBEq, Nat.reduceLT, Nat.reduceAdd, Nat.reduceMul, Nat.reduceSub, Nat.reduceLeDiff, decide_true, ne_eq, Nat.reduceEqDiff, not_false_eq_true, Classical.not_not, Int.lt_irrefl, false_implies, g0, g1, g5, g6]
    refine ⟨fun h1 => ?_, fun h1 => ?_⟩
    · rw [h1, if_pos rfl] at hs
      refine ⟨⟨by omega, by omega⟩, ⟨by omega, by omega⟩, _, ?_, i + 1, rfl, rfl, ?_, rfl, by omega, rfl, rfl⟩
      · omega
      · rw [hs]; simp [AX.get]
    · rw [h1, if_neg (by simp), List.append_nil] at hs
      refine ⟨⟨by omega, by omega⟩, _, ?_, i + 1, rfl, rfl, ?_, rfl, by omega, rfl, rfl⟩
      · omega
      · rw [hs]; rfl
  · have : i = n.toNat := by omega
    rw [this]

theorem spec_AutomatonValid (a : Au) (h1 : a.nx.length ≤ 1048576) (h2 : ∀ r ∈ a.nx, r.length ≤ 1048576) : Pure Tryz.prog gl 21 [.agg (eA a)] (.bool (autOk a)) := by
  refine callWp_of (cf := ⟨44, [0, 1, 2, 3, 4, 26, 29, 43], [], [1, 5, 8, 21, 32, 37]⟩) (rs := [.tmp 2]) Tryz.func21 rfl (by decide) rfl rfl (by simp) ?_
  simp only [go_sem, Nat.reduceBEq, Nat.reduceLT, Nat.reduceAdd, Nat.reduceMul, Nat.reduceSub, Nat.reduceLeDiff, decide_true, ne_eq, Nat.reduceEqDiff, not_false_eq_true, Classical.not_not, Int.lt_irrefl, false_implies]
  refine (spec_l1Alphabet a.al).call ?_
  simp only [go_sem, Nat.reduceBEq, Nat.reduceLT, Nat.reduceAdd, Nat.reduceMul, Nat.reduceSub, Nat.reduceLeDiff, decide_true, ne_eq, Nat.reduceEqDiff, not_false_eq_true, Classical.not_not, Int.lt_irrefl, false_implies]
  cases ha : isAlpha a.al
  · simp [autOk, ha]
  have ha' := isAlpha_iff.1 ha
  simp only [go_sem, Nat.reduceBEq, Nat.reduceLT, Nat.reduceAdd, Nat.reduceMul, Nat.reduceSub, Nat.reduceLeDiff, decide_true, ne_eq, Nat.reduceEqDiff, not_false_eq_true, Classical.not_not, Int.lt_irrefl, false_implies]
  refine ⟨fun h3 => ?_, fun h3 => ⟨fun h4 => ?_, fun h4 => ⟨fun h5 => ?_, fun h5 => ?_⟩⟩⟩
  · have : decide (1 ≤ a.nx.length ∧ a.nx.length ≤ 12) = false := by simp; omega
    simp [autOk, this]
  · have : decide (1 ≤ a.nx.length ∧ a.nx.length ≤ 12) = false := by simp; omega
    simp [autOk, this]
  · have : decide (a.ac.length = a.nx.length) = false := by simp; omega
    simp [autOk, this]
  · have e1 : decide (1 ≤ a.nx.length ∧ a.nx.length ≤ 12) = true := by simp; omega
    have e2 : decide (a.ac.length = a.nx.length) = true := by simp; omega
    refine LoopWp.by (fun m ρ σ => ∃ i : Nat, get ρ 1 = .cptr (eA a) ∧ get ρ 3 = .int a.nx.length ∧ get ρ 4 = .int i ∧ i ≤ a.nx.length ∧ (a.nx.take i).all (rowOk (letters a.al).length a.nx.length) = true ∧ σ = [] ∧ m = a.nx.length - i) a.nx.length ?_ ?_
    · exact ⟨0, rfl, rfl, rfl, by omega, by simp, rfl, by omega⟩
    rintro m ρ σ ⟨i, g1, g3, g4, hi, hall, rfl, rfl⟩
    by_cases hlt : i < a.nx.length
    · obtain ⟨r, hr⟩ : ∃ r, a.nx[i]? = some r := ⟨_, List.getElem?_eq_getElem hlt⟩
      simp only [go_sem, Nat.reduceBEq, Nat.reduceLT, Nat.reduceAdd, Nat.reduceMul, Nat.reduceSub, Nat.reduceLeDiff, decide_true, ne_eq, Nat.reduceEqDiff, not_false_eq_true, Classical.not_not, Int.lt_irrefl, false_implies, g1, g3, g4, hr]
      refine ⟨fun _ => ?_, fun h => by omega⟩
      refine DrawK.text mixed (by kernel_rfl) ?_
      simp only [go_sem, Nat.reduceBEq, Nat.reduceLT, Nat.reduceAdd, Nat.reduceMul, Nat.reduceSub, Nat.reduceLeDiff, decide_true, ne_eq, Nat.reduceEqDiff, not_false_eq_true, Classical.not_not, Int.lt_irrefl, false_implies, g1, g3, g4, hr]
      refine ⟨_, spec_l1Letters a.al (by omega), ?_⟩
      simp only [go_sem, Nat.reduceBEq, Nat.reduceLT, Nat.reduceAdd, Nat.reduceMul, Nat.reduceSub, Nat.reduceLeDiff, decide_true, ne_eq, Nat.reduceEqDiff, not_false_eq_true, Classical.not_not, Int.lt_irrefl, false_implies, g1, g3, g4, hr]
      refine ⟨_, spec_l3Row r _ _ (h2 r (List.mem_of_getElem? hr)), ?_⟩
      cases hok : rowOk (letters a.al).length a.nx.length r
      · simp only [go_sem, Nat.reduceBEq, Nat.reduceLT, Nat.reduceAdd, Nat.reduceMul, Nat.reduceSub, Nat.reduceLeDiff, decide_true, ne_eq, Nat.reduceEqDiff, not_false_eq_true, Classical.not_not, Int.lt_irrefl, false_implies, g1, g3, g4, hok]
        simp [autOk, all_false hr hok]
      · simp only [go_sem, Nat.reduceBEq, Nat.reduceLT, Nat.reduceAdd, Nat.reduceMul, Nat.reduceSub, Nat.reduceLeDiff, decide_true, ne_eq, Nat.reduceEqDiff, not_false_eq_true, Classical.not_not, Int.lt_irrefl, false_implies, g1, g3, g4, hok]
        exact ⟨⟨by omega, by omega⟩, _, by omega, i + 1, rfl, rfl, rfl, by omega, by rw [all_take_succ hr, hall, hok]; rfl, rfl, rfl⟩
    · have : i = a.nx.length := by omega
      subst this
      simp only [go_sem, Nat.reduceBEq, Nat.reduceLT, Nat.reduceAdd, Nat.reduceMul, Nat.reduceSub, Nat.reduceLeDiff, decide_true, ne_eq, Nat.reduceEqDiff, not_false_eq_true, Classical.not_not, Int.lt_irrefl, false_implies, g1, g3, g4]
      rw [List.take_length] at hall
      simp only [autOk, ha, e1, e2, hall, Bool.and_self]
end Go.Proofs
end
section
/- Contracts: the spec's parts alphabet, an edge dropped, a step of an automaton. -/
namespace Go.Proofs
open Go.AX AG
variable {gl : Globs}
set_option maxRecDepth 10000
set_option linter.unusedSimpArgs false

theorem spec_PartsAlphabet (l : List Ts) (hl : ∀ s ∈ l, s.ed.length ≤ 1048576) : Pure Tryz.prog gl 20 [systems l] (.int (partsAl l)) := by
  refine callWp_of (cf := ⟨33, [0, 2, 3, 4, 12, 16, 24], [], []⟩) (rs := [.tmp 2]) Tryz.func20 rfl (by decide) rfl rfl (by simp) ?_
  simp only [go_sem, Nat.reduceBEq, Nat.reduceLT, Nat.reduceAdd, Nat.reduceMul, Nat.reduceSub, Nat.reduceLeDiff, decide_true, ne_eq, Nat.reduceEqDiff, not_false_eq_true, Classical.not_not, Int.lt_irrefl, false_implies]
  refine ⟨fun h => ?_, fun h => ⟨fun h2 => ?_, fun h2 => ?_⟩⟩
  · have : decide (1 ≤ l.length ∧ l.length ≤ 3) = false := by simp; omega
    simp [partsAl, partsOk, this]
  · have : decide (1 ≤ l.length ∧ l.length ≤ 3) = false := by simp; omega
    simp [partsAl, partsOk, this]
  · have hlen : decide (1 ≤ l.length ∧ l.length ≤ 3) = true := by simp; omega
    refine LoopWp.by (fun m ρ σ => ∃ i : Nat, get ρ 0 = systems l ∧ get ρ 3 = .int (alOf (l.take i)) ∧ get ρ 4 = .int i ∧ i ≤ l.length ∧ (l.take i).all sysOk = true ∧ σ = [] ∧ m = l.length - i) l.length ?_ ?_
    · exact ⟨0, rfl, rfl, rfl, by omega, by simp, rfl, by omega⟩
    rintro m ρ σ ⟨i, g0, g3, g4, hi, hall, rfl, rfl⟩
    by_cases hlt : i < l.length
    · obtain ⟨s, hs⟩ : ∃ s, l[i]? = some s := ⟨_, List.getElem?_eq_getElem hlt⟩
      simp only [go_sem, Nat.reduceBEq, Nat.reduceLT, Nat.reduceAdd, Nat.reduceMul, Nat.reduceSub, Nat.reduceLeDiff, decide_true, ne_eq, Nat.reduceEqDiff, not_false_eq_true, Classical.not_not, Int.lt_irrefl, false_implies, g0, g3, g4, hs]
      refine ⟨fun _ => ?_, fun h => by omega⟩
      refine (spec_SystemValid s (hl s (List.mem_of_getElem? hs))).call ?_
      cases hok : sysOk s
      · simp only [go_sem, Nat.reduceBEq, Nat.reduceLT, Nat.reduceAdd, Nat.reduceMul, Nat.reduceSub, Nat.reduceLeDiff, decide_true, ne_eq, Nat.reduceEqDiff, not_false_eq_true, Classical.not_not, Int.lt_irrefl, false_implies, g0, g3, g4, hs]
        simp [partsAl, partsOk, all_false hs hok]
      · simp only [go_sem, Nat.reduceBEq, Nat.reduceLT, Nat.reduceAdd, Nat.reduceMul, Nat.reduceSub, Nat.reduceLeDiff, decide_true, ne_eq, Nat.reduceEqDiff, not_false_eq_true, Classical.not_not, Int.lt_irrefl, false_implies, g0, g3, g4, hs]
        have h3 := alOf_le hall
        have h4 := sysOk_al hok
        exact ⟨⟨by omega, by omega, by omega, by omega⟩, ⟨by omega, by omega⟩, _, by omega, i + 1, rfl, by rw [alOf_take hs]; rfl, rfl, by omega, by rw [all_take_succ hs, hall, hok]; rfl, rfl, rfl⟩
    · have : i = l.length := by omega
      subst this
      simp only [go_sem, Nat.reduceBEq, Nat.reduceLT, Nat.reduceAdd, Nat.reduceMul, Nat.reduceSub, Nat.reduceLeDiff, decide_true, ne_eq, Nat.reduceEqDiff, not_false_eq_true, Classical.not_not, Int.lt_irrefl, false_implies, g0, g3, g4]
      rw [List.take_length] at hall ⊢
      simp only [partsAl, partsOk, hlen, hall, Bool.and_self, cond_true]

theorem spec_l3Go (a : Au) (q l : Int) (hok : autOk a = true) (hq : 0 ≤ q ∧ q < a.nx.length) (hl : 0 ≤ l ∧ l < 6) : Pure Tryz.prog gl 99 [.agg (eA a), .int q, .int l] (.int (aGo a q l)) := by
  have ha := autOk_al hok
  refine callWp_of (cf := ⟨24, [0, 1, 2, 3, 6, 11], [], [3, 7, 13, 18]⟩) (rs := [.tmp 6]) Tryz.func99 rfl (by decide) rfl rfl (by simp) ?_
  simp only [go_sem, Nat.reduceBEq, Nat.reduceLT, Nat.reduceAdd, Nat.reduceMul, Nat.reduceSub, Nat.reduceLeDiff, decide_true, ne_eq, Nat.reduceEqDiff, not_false_eq_true, Classical.not_not, Int.lt_irrefl, false_implies]
  refine (spec_l1Has a.al l (by omega) (by omega)).call ?_
  cases hh : hasL a.al l
  · simp only [go_sem, Nat.reduceBEq, Nat.reduceLT, Nat.reduceAdd, Nat.reduceMul, Nat.reduceSub, Nat.reduceLeDiff, decide_true, ne_eq, Nat.reduceEqDiff, not_false_eq_true, Classical.not_not, Int.lt_irrefl, false_implies]
    simp [aGo, hh]
  · obtain ⟨r, hr, hrl, hin⟩ := autOk_row hok (q := q.toNat) (by omega)
    have hp := place_lt hl hh
    obtain ⟨x, hx⟩ : ∃ x, r[place a.al l]? = some x := ⟨_, List.getElem?_eq_getElem (by omega)⟩
    have hx' : r[(lettersUp a.al l.toNat).length]? = some x := hx
    simp only [go_sem, Nat.reduceBEq, Nat.reduceLT, Nat.reduceAdd, Nat.reduceMul, Nat.reduceSub, Nat.reduceLeDiff, decide_true, ne_eq, Nat.reduceEqDiff, not_false_eq_true, Classical.not_not, Int.lt_irrefl, false_implies, hr]
    refine DrawK.text mixed (by kernel_rfl) ?_
    simp only [go_sem, Nat.reduceBEq, Nat.reduceLT, Nat.reduceAdd, Nat.reduceMul, Nat.reduceSub, Nat.reduceLeDiff, decide_true, ne_eq, Nat.reduceEqDiff, not_false_eq_true, Classical.not_not, Int.lt_irrefl, false_implies, hr]
    refine ⟨by omega, _, spec_l1Place a.al l (by omega) (by omega), ?_⟩
    simp only [go_sem, Nat.reduceBEq, Nat.reduceLT, Nat.reduceAdd, Nat.reduceMul, Nat.reduceSub, Nat.reduceLeDiff, decide_true, ne_eq, Nat.reduceEqDiff, not_false_eq_true, Classical.not_not, Int.lt_irrefl, false_implies, hx']
    simp [aGo, hh, hr, hx]

theorem spec_l17Drop (s : Ts) (k : Nat) (hk : k < s.ed.length) (hl : s.ed.length ≤ 1048576) : Pure Tryz.prog gl 22 [.agg (eS s), .int k] (.agg (eS (dropAt s k))) := by
  refine Pure.own (callWp_of (cf := ⟨22, [0, 1, 2, 4], [], [2, 5, 7, 10, 15]⟩) (rs := [.cell 4 51]) Tryz.func22 rfl (by decide) rfl rfl (by simp) ?_)
  simp only [go_sem, Nat.reduceBEq, Nat.reduceLT, Nat.reduceAdd, Nat.reduceMul, Nat.reduceSub, Nat.reduceLeDiff, decide_true, ne_eq, Nat.reduceEqDiff, not_false_eq_true, Classical.not_not, Int.lt_irrefl, false_implies]
  intro b
  refine DrawK.ord mixed [0, 1, 2, 3, 4, 5, 6, 7, 8, 10, 11, 12, 13, 14, 9, 15, 16, 17] (by kernel_rfl) ?_
  simp only [go_sem, Nat.reduceBEq, Nat.reduceLT, Nat.reduceAdd, Nat.reduceMul, Nat.reduceSub, Nat.reduceLeDiff, decide_true, ne_eq, Nat.reduceEqDiff, not_false_eq_true, Classical.not_not, Int.lt_irrefl, false_implies]
  refine ⟨⟨by omega, by omega⟩, ⟨by omega, by omega⟩, ⟨by omega, by omega, by omega⟩, ?_⟩
  refine (Acc.mt 3).appendL rfl rfl rowsIn_list (by omega) ⟨by simp; omega, by simp⟩ fun out' τ' hA' hd => ?_
  simp only [go_sem, Nat.reduceBEq, Nat.reduceLT, Nat.reduceAdd, Nat.reduceMul, Nat.reduceSub, Nat.reduceLeDiff, decide_true, ne_eq, Nat.reduceEqDiff, not_false_eq_true, Classical.not_not, Int.lt_irrefl, false_implies]
  refine hA'.appendL rfl rfl rowsIn_list (by omega) ⟨by simp; omega, by simp⟩ fun out2 τ2 hA2 hd2 => ?_
  have h1 := hd2.look
  have h2 := hd2.set
  have h3 := hA2.cells
  simp only [go_sem, Nat.reduceBEq, Nat.reduceLT, Nat.reduceAdd, Nat.reduceMul, Nat.reduceSub, Nat.reduceLeDiff, decide_true, ne_eq, Nat.reduceEqDiff, not_false_eq_true, Classical.not_not, Int.lt_irrefl, false_implies, h1, h2, h3]
  refine Gh.cut (List.sublist_append_left τ2 _) (GhAll.agg ?_)
  have e : List.drop (Int.toNat 0) (List.take k (s.ed.map eE)) ++ List.drop ((k : Int) + 1).toNat (List.take s.ed.length (s.ed.map eE)) = (dropAt s k).ed.map eE := by
    have e1 : ((k : Int) + 1).toNat = k + 1 := by omega
    have e2 : List.take s.ed.length (s.ed.map eE) = s.ed.map eE := by rw [List.take_of_length_le (by simp)]
    rw [e1, e2]
    simp [dropAt, List.map_take, List.map_drop]
  simp only [List.nil_append] at hA2
  rw [e] at hA2
  exact Gh.cons (Gh.of (Sees.refl _)) (Gh.cons (Gh.of (Sees.refl _)) hA2.gh.all)
end Go.Proofs
end
section
/- Contracts: the spec's search, its small functions. -/
namespace Go.Proofs
open Go.AX AG
variable {gl : Globs}
set_option maxRecDepth 10000
set_option linter.unusedSimpArgs false

theorem spec_l4In (l : List Int) (n : Int) (hl : l.length ≤ 1048576) : Pure Tryz.prog gl 90 [ints l, .int n] (.bool (inL l n)) := by
  refine callWp_of (cf := ⟨18, [0, 1, 4, 5, 9, 17], [], []⟩) (rs := [.tmp 4]) Tryz.func90 rfl (by decide) rfl rfl (by simp) ?_
  simp only [go_sem, Nat.reduceBEq, Nat.reduceLT, Nat.reduceAdd, Nat.reduceMul, Nat.reduceSub, Nat.reduceLeDiff, decide_true, ne_eq, Nat.reduceEqDiff, not_false_eq_true, Classical.not_not, Int.lt_irrefl, false_implies]
  refine LoopWp.by (fun m ρ σ => ∃ i : Nat, get ρ 0 = ints l ∧ get ρ 1 = .int n ∧ get ρ 5 = .int i ∧ i ≤ l.length ∧ inL (l.take i) n = false ∧ σ = [] ∧ m = l.length - i) l.length ?_ ?_
  · exact ⟨0, rfl, rfl, rfl, by omega, by simp [inL], rfl, by omega⟩
  rintro m ρ σ ⟨i, g0, g1, g5, hi, hall, rfl, rfl⟩
  by_cases hlt : i < l.length
  · obtain ⟨x, hx⟩ : ∃ x, l[i]? = some x := ⟨_, List.getElem?_eq_getElem hlt⟩
    simp only [go_sem, Nat.reduceBEq, Nat.reduceLT, Nat.reduceAdd, Nat.reduceMul, Nat.reduceSub, Nat.reduceLeDiff, decide_true, ne_eq, Nat.reduceEqDiff, not_false_eq_true, Classical.not_not, Int.lt_irrefl, false_implies, g0, g1, g5, hx]
    refine ⟨fun _ => ⟨fun h => ?_, fun h => ?_⟩, fun h => by omega⟩
    · subst h
      have : inL l x = true := by simp only [inL, List.any_eq_true]; exact ⟨x, List.mem_of_getElem? hx, by simp⟩
      rw [this]
    · exact ⟨⟨by omega, by omega⟩, _, by omega, i + 1, rfl, rfl, rfl, by omega, by unfold inL at hall ⊢; rw [List.take_add_one, hx, List.any_append, hall]; simp [h], rfl, rfl⟩
  · have : i = l.length := by omega
    subst this
    simp only [go_sem, Nat.reduceBEq, Nat.reduceLT, Nat.reduceAdd, Nat.reduceMul, Nat.reduceSub, Nat.reduceLeDiff, decide_true, ne_eq, Nat.reduceEqDiff, not_false_eq_true, Classical.not_not, Int.lt_irrefl, false_implies, g0, g1, g5]
    rw [List.take_length] at hall
    rw [hall]

theorem spec_l4Encode (sz st : List Int) (hl : sz.length = st.length) (hn : sz.length ≤ 1048576) (hb : ∀ i ≤ sz.length, 0 ≤ enc (sz.take i) (st.take i) ∧ enc (sz.take i) (st.take i) ≤ 1073741824) (hz : ∀ s ∈ sz, 0 ≤ s ∧ s ≤ 1073741824) (hs : ∀ s ∈ st, 0 ≤ s ∧ s ≤ 1073741824) :
    Pure Tryz.prog gl 75 [ints sz, ints st] (.int (enc sz st)) := by
  refine callWp_of (cf := ⟨25, [0, 1, 4, 5, 6, 10], [], []⟩) (rs := [.tmp 4]) Tryz.func75 rfl (by decide) rfl rfl (by simp) ?_
  simp only [go_sem, Nat.reduceBEq, Nat.reduceLT, Nat.reduceAdd, Nat.reduceMul, Nat.reduceSub, Nat.reduceLeDiff, decide_true, ne_eq, Nat.reduceEqDiff, not_false_eq_true, Classical.not_not, Int.lt_irrefl, false_implies]
  refine LoopWp.by (fun m ρ σ => ∃ i : Nat, get ρ 0 = ints sz ∧ get ρ 1 = ints st ∧ get ρ 5 = .int (enc (sz.take i) (st.take i)) ∧ get ρ 6 = .int i ∧ i ≤ sz.length ∧ σ = [] ∧ m = sz.length - i) sz.length ?_ ?_
  · exact ⟨0, rfl, rfl, rfl, rfl, by omega, rfl, by omega⟩
  rintro m ρ σ ⟨i, g0, g1, g5, g6, hi, rfl, rfl⟩
  by_cases hlt : i < sz.length
  · obtain ⟨x, hx⟩ : ∃ x, sz[i]? = some x := ⟨_, List.getElem?_eq_getElem hlt⟩
    obtain ⟨y, hy⟩ : ∃ y, st[i]? = some y := ⟨_, List.getElem?_eq_getElem (by omega)⟩
    simp only [go_sem, Nat.reduceBEq, Nat.reduceLT, Nat.reduceAdd, Nat.reduceMul, Nat.reduceSub, Nat.reduceLeDiff, decide_true, ne_eq, Nat.reduceEqDiff, not_false_eq_true, Classical.not_not, Int.lt_irrefl, false_implies, g0, g1, g5, g6]
    refine ⟨fun _ => ?_, fun h => by omega⟩
    refine DrawK.text mixed (by kernel_rfl) ?_
    simp only [go_sem, Nat.reduceBEq, Nat.reduceLT, Nat.reduceAdd, Nat.reduceMul, Nat.reduceSub, Nat.reduceLeDiff, decide_true, ne_eq, Nat.reduceEqDiff, not_false_eq_true, Classical.not_not, Int.lt_irrefl, false_implies, g0, g1, g5, g6, hx, hy]
    have h1 := hb i hi
    have h2 := hz x (List.mem_of_getElem? hx)
    have h3 := hs y (List.mem_of_getElem? hy)
    have h4 : 0 ≤ enc (sz.take i) (st.take i) * x ∧ enc (sz.take i) (st.take i) * x ≤ 1073741824 * 1073741824 := ⟨Int.mul_nonneg h1.1 h2.1, Int.mul_le_mul h1.2 h2.2 h2.1 (by omega)⟩
    refine ⟨⟨by omega, by omega⟩, ⟨by omega, by omega⟩, ⟨by omega, by omega⟩, _, by omega, i + 1, rfl, rfl, ?_, rfl, by omega, rfl, rfl⟩
    have : enc (sz.take (i + 1)) (st.take (i + 1)) = enc (sz.take i) (st.take i) * x + y := by
      unfold enc
      rw [List.take_add_one, List.take_add_one, hx, hy, List.zip_append (by simp; omega)]
      simp
    rw [this]; rfl
  · have : i = sz.length := by omega
    subst this
    simp only [go_sem, Nat.reduceBEq, Nat.reduceLT, Nat.reduceAdd, Nat.reduceMul, Nat.reduceSub, Nat.reduceLeDiff, decide_true, ne_eq, Nat.reduceEqDiff, not_false_eq_true, Classical.not_not, Int.lt_irrefl, false_implies, g0, g1, g5, g6]
    rw [List.take_length, hl, List.take_length]
end Go.Proofs
end
