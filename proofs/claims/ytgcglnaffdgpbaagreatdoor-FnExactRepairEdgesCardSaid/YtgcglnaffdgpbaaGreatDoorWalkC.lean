/- Contracts of the functions that the law reaches. -/
import Derived.Test.YtgcglnaffdgpbaaGreatDoorWalkB
import Derived.Test.YtgcglnaffdgpbaaGreatDoorPlainA
import Derived.Test.YtgcglnaffdgpbaaGreatDoorRuleG
section
/- Contracts: the spec's search, what is looked for; distances; nodes closer by. -/
namespace Go.Proofs
open Go.AX AG
variable {gl : Globs}
set_option maxRecDepth 10000
set_option linter.unusedSimpArgs false

theorem spec_l4Found (n : Nt) (hn : NtOk n) (hk : KindOk n) (q : List Int) (hq : Vec n q) (mv : List (List Int)) (hm : mv.length ≤ 1048576) : Pure Tryz.prog gl 72 [.agg (eN n), ints q, intss mv] (.bool (foundAt n q mv)) := by
  have hlp := hn.lp
  have hla := hn.la
  have h1 := hk.one
  have h2 := hk.two
  refine callWp_of (cf := ⟨64, [0, 1, 2, 3, 6, 7, 9, 10, 15, 24, 35, 41, 55, 63], [], [3, 8, 44, 49]⟩) (rs := [.tmp 6]) Tryz.func72 rfl (by decide) rfl rfl (by simp) ?_
  simp only [go_sem, Nat.reduceBEq, Nat.reduceLT, Nat.reduceAdd, Nat.reduceMul, Nat.reduceSub, Nat.reduceLeDiff, decide_true, ne_eq, Nat.reduceEqDiff, not_false_eq_true, Classical.not_not, Int.lt_irrefl, false_implies]
  refine ⟨fun hm0 => ?_, fun hm0 => ⟨fun hm1 => ?_, fun hm1 => ⟨fun hm2 => ?_, fun hm2 => ⟨fun hm3 => ?_, fun hm3 => ⟨fun hm5 => ?_, fun hm5 => ?_⟩⟩⟩⟩⟩
  · refine (spec_l4Ok n hn q hq 0 (by omega)).call ?_
    simp only [go_sem, Nat.reduceBEq, Nat.reduceLT, Nat.reduceAdd, Nat.reduceMul, Nat.reduceSub, Nat.reduceLeDiff, decide_true, ne_eq, Nat.reduceEqDiff, not_false_eq_true, Classical.not_not, Int.lt_irrefl, false_implies]
    simp [foundAt, hm0]
  · refine DrawK.text mixed (by kernel_rfl) ?_
    simp only [go_sem, Nat.reduceBEq, Nat.reduceLT, Nat.reduceAdd, Nat.reduceMul, Nat.reduceSub, Nat.reduceLeDiff, decide_true, ne_eq, Nat.reduceEqDiff, not_false_eq_true, Classical.not_not, Int.lt_irrefl, false_implies]
    refine ⟨_, spec_l4Ok n hn q hq 0 (by omega), ?_⟩
    simp only [go_sem, Nat.reduceBEq, Nat.reduceLT, Nat.reduceAdd, Nat.reduceMul, Nat.reduceSub, Nat.reduceLeDiff, decide_true, ne_eq, Nat.reduceEqDiff, not_false_eq_true, Classical.not_not, Int.lt_irrefl, false_implies]
    refine ⟨_, spec_l4Ok n hn q hq 1 (by omega), ?_⟩
    simp only [go_sem, Nat.reduceBEq, Nat.reduceLT, Nat.reduceAdd, Nat.reduceMul, Nat.reduceSub, Nat.reduceLeDiff, decide_true, ne_eq, Nat.reduceEqDiff, not_false_eq_true, Classical.not_not, Int.lt_irrefl, false_implies]
    simp [foundAt, hm1]
  · refine (spec_l4Ok n hn q hq 0 (by omega)).call ?_
    cases hb : okAt n q 0
    · simp only [go_sem, Nat.reduceBEq, Nat.reduceLT, Nat.reduceAdd, Nat.reduceMul, Nat.reduceSub, Nat.reduceLeDiff, decide_true, ne_eq, Nat.reduceEqDiff, not_false_eq_true, Classical.not_not, Int.lt_irrefl, false_implies]
      simp [foundAt, hm2, hb]
    · simp only [go_sem, Nat.reduceBEq, Nat.reduceLT, Nat.reduceAdd, Nat.reduceMul, Nat.reduceSub, Nat.reduceLeDiff, decide_true, ne_eq, Nat.reduceEqDiff, not_false_eq_true, Classical.not_not, Int.lt_irrefl, false_implies]
      refine (spec_l4Ok n hn q hq 1 (by omega)).call ?_
      simp only [go_sem, Nat.reduceBEq, Nat.reduceLT, Nat.reduceAdd, Nat.reduceMul, Nat.reduceSub, Nat.reduceLeDiff, decide_true, ne_eq, Nat.reduceEqDiff, not_false_eq_true, Classical.not_not, Int.lt_irrefl, false_implies]
      simp [foundAt, hm2, hb]
  · refine (spec_l4Ok n hn q hq 0 (by omega)).call ?_
    simp only [go_sem, Nat.reduceBEq, Nat.reduceLT, Nat.reduceAdd, Nat.reduceMul, Nat.reduceSub, Nat.reduceLeDiff, decide_true, ne_eq, Nat.reduceEqDiff, not_false_eq_true, Classical.not_not, Int.lt_irrefl, false_implies]
    simp [foundAt, hm3]
  · have hql := hq.len
    obtain ⟨x, hx⟩ : ∃ x, q[n.ps.length]? = some x := ⟨_, List.getElem?_eq_getElem (by have := h1 (.inr (.inr hm5)); omega)⟩
    refine DrawK.text mixed (by kernel_rfl) ?_
    simp only [go_sem, Nat.reduceBEq, Nat.reduceLT, Nat.reduceAdd, Nat.reduceMul, Nat.reduceSub, Nat.reduceLeDiff, decide_true, ne_eq, Nat.reduceEqDiff, not_false_eq_true, Classical.not_not, Int.lt_irrefl, false_implies, hx]
    simp [foundAt, hm5, hx]
  · refine LoopWp.by (fun m ρ σ => ∃ i : Nat, get ρ 2 = intss mv ∧ get ρ 7 = .int i ∧ i ≤ mv.length ∧ (mv.take i).all (fun r => decide (r.length = 0)) = true ∧ σ = [] ∧ m = mv.length - i) mv.length ?_ ?_
    · exact ⟨0, rfl, rfl, by omega, by simp, rfl, by omega⟩
    rintro m ρ σ ⟨i, g2, g7, hi, hall, rfl, rfl⟩
    by_cases hlt : i < mv.length
    · obtain ⟨r, hr⟩ : ∃ r, mv[i]? = some r := ⟨_, List.getElem?_eq_getElem hlt⟩
      simp only [go_sem, Nat.reduceBEq, Nat.reduceLT, Nat.reduceAdd, Nat.reduceMul, Nat.reduceSub, Nat.reduceLeDiff, decide_true, ne_eq, Nat.reduceEqDiff, not_false_eq_true, Classical.not_not, Int.lt_irrefl, false_implies, g2, g7, hr]
      refine ⟨fun _ => ⟨fun h => ?_, fun h => ?_⟩, fun h => by omega⟩
      · have : mv.all (fun r => decide (r.length = 0)) = false := all_false hr (by simp only [decide_eq_false_iff_not]; omega)
        simp only [foundAt, hm0, hm1, hm2, hm3, hm5, this, if_false]
      · exact ⟨⟨by omega, by omega⟩, _, by omega, i + 1, rfl, rfl, by omega, by rw [all_take_succ hr, hall]; simp only [Bool.true_and, decide_eq_true_eq]; omega, rfl, rfl⟩
    · have : i = mv.length := by omega
      subst this
      rw [List.take_length] at hall
      simp only [go_sem, Nat.reduceBEq, Nat.reduceLT, Nat.reduceAdd, Nat.reduceMul, Nat.reduceSub, Nat.reduceLeDiff, decide_true, ne_eq, Nat.reduceEqDiff, not_false_eq_true, Classical.not_not, Int.lt_irrefl, false_implies, g2, g7]
      simp only [foundAt, hm0, hm1, hm2, hm3, hm5, hall, if_false]
end Go.Proofs
end
section
/- Contracts: the spec's search, distances. -/
namespace Go.Proofs
open Go.AX AG
variable {gl : Globs}
set_option maxRecDepth 10000
set_option linter.unusedSimpArgs false

theorem ints_lend {b n c : Nat} {D : List Int} (hn : n = D.length) (hc : n ≤ c) : Gh gl [(b, .own (D.map AV.int))] (.msl b 0 n c) [] (ints D) := by
  have := Gh.ints (gl := gl) (b := b) (n := n) (c := c) (l := D) (rest := []) hn hc
  rwa [List.append_nil] at this

theorem spec_l4Dist (mv : List (List (List Int))) (D0 : List Int) (hl : mv.length = D0.length) (hn : D0.length ≤ 1048576) (h0 : ∀ (i : Nat) x, D0[i]? = some x → x = -1 ∨ x = 0)
    (hr : ∀ r ∈ mv, r.length ≤ 1048576 ∧ ∀ r2 ∈ r, r2.length ≤ 1048576 ∧ ∀ x ∈ r2, 0 ≤ x ∧ x < D0.length) (b : Nat) :
    CallWp Tryz.prog gl 74 [intsss mv, .msl b 0 D0.length D0.length] [(b, .own (D0.map AV.int))] fun _ σ => ∃ D, DistOk mv D0 D ∧ σ = [(b, .own (D.map AV.int))] := by
  refine callWp_of (cf := ⟨35, [0, 1, 4, 5, 6, 7, 13, 30], [], []⟩) (rs := []) Tryz.func74 rfl (by decide) rfl rfl (by simp) ?_
  simp only [go_sem, Nat.reduceBEq, Nat.reduceLT, Nat.reduceAdd, Nat.reduceMul, Nat.reduceSub, Nat.reduceLeDiff, decide_true, ne_eq, Nat.reduceEqDiff, not_false_eq_true, Classical.not_not, Int.lt_irrefl, false_implies]
  refine LoopWp.by (fun m ρ σ => ∃ (D : List Int) (d : Int) (more : Bool), get ρ 0 = intsss mv ∧ get ρ 1 = .msl b 0 D0.length D0.length ∧ get ρ 4 = .bool more ∧ get ρ 5 = .int d ∧ σ = [(b, .own (D.map AV.int))] ∧ Lv mv D0 D d ∧
      (more = false → DistOk mv D0 D) ∧ m = neg D + (if more = true then 1 else 0) ∧ d + m ≤ D0.length + 2) (neg D0 + 1) ?_ ?_
  · refine ⟨D0, 1, true, rfl, rfl, rfl, rfl, rfl, Lv.start h0, by simp, rfl, ?_⟩
    have : neg D0 ≤ D0.length := List.countP_le_length
    omega
  rintro m ρ σ ⟨D, d, more, g0, g1, g4, g5, rfl, hL, hdone, rfl, hb⟩
  have hlen := hL.len
  have hpos := hL.pos
  simp only [go_sem, Nat.reduceBEq, Nat.reduceLT, Nat.reduceAdd, Nat.reduceMul, Nat.reduceSub, Nat.reduceLeDiff, decide_true, ne_eq, Nat.reduceEqDiff, not_false_eq_true, Classical.not_not, Int.lt_irrefl, false_implies, g0, g1, g4, g5]
  refine ⟨fun hmore => ?_, fun hmore => ⟨D, hdone hmore, rfl⟩⟩
  subst hmore
  have hRl := rnd_length mv d D
  refine LoopWp.by (fun m ρ σ => ∃ i : Nat, get ρ 0 = intsss mv ∧ get ρ 1 = .msl b 0 D0.length D0.length ∧ get ρ 4 = .bool (chg (rnd mv d D) D i) ∧ get ρ 5 = .int d ∧ get ρ 6 = .int i ∧ i ≤ D.length ∧ σ = [(b, .own ((mix (rnd mv d D) D i).map AV.int))] ∧ m = D.length - i) D.length ?_ ?_
  · exact ⟨0, rfl, rfl, by rw [chg_zero]; rfl, rfl, rfl, by omega, by rw [mix_zero], by omega⟩
  rintro m ρ σ ⟨i, g0, g1, g4, g5, g6, hi, rfl, rfl⟩
  by_cases hlt : i < D.length
  · obtain ⟨x, hx⟩ : ∃ x, D[i]? = some x := ⟨_, List.getElem?_eq_getElem hlt⟩
    obtain ⟨r, hrr⟩ : ∃ r, mv[i]? = some r := ⟨_, List.getElem?_eq_getElem (by omega)⟩
    have hrow : rowOf mv i = r := by simp [rowOf, hrr]
    have hmx : (mix (rnd mv d D) D i)[i]? = some x := by rw [mix_get hRl hi, if_neg (by omega), hx]
    have hget := rnd_get mv d D i
    rw [hx, hrow] at hget
    have hml := mix_length hRl i
    have hnm := near_mix hL hi r
    have hrx := hL.rng i x hx
    have hmv := hr r (List.mem_of_getElem? hrr)
    generalize hC : mix (rnd mv d D) D i = C at *
    have hrd := own_read (f := AV.int) hmx
    simp only [go_sem, Nat.reduceBEq, Nat.reduceLT, Nat.reduceAdd, Nat.reduceMul, Nat.reduceSub, Nat.reduceLeDiff, decide_true, ne_eq, Nat.reduceEqDiff, not_false_eq_true, Classical.not_not, Int.lt_irrefl, false_implies, g0, g1, g4, g5, g6, hrd, hml, hlen, hrr]
    refine ⟨fun _ => ⟨by omega, by omega, fun h1 => ?_, fun h1 => ?_⟩, fun h => by omega⟩
    · refine ⟨⟨by omega, by omega⟩, ?_⟩
      refine Pure.lend (τ := [(b, .own (C.map AV.int))]) (σ := []) (spec_l4Near r C (d - 1) hmv.1 fun r2 hr2 => ⟨(hmv.2 r2 hr2).1, fun x hx => by have := (hmv.2 r2 hr2).2 x hx; omega⟩) (Gh.cons (Gh.of (Sees.refl _)) (Gh.cons (ints_lend (by omega) (Nat.le_refl _)) (Gh.cons (Gh.of (Sees.refl _)) GhAll.nil))) rfl ?_
      cases hnr : near r C (d - 1)
      · have hget2 : (rnd mv d D)[i]? = D[i]? := by rw [hget, hx, ← hnm, hnr]; simp
        have h2 := chg_same hRl hlt hget2
        have h3 := mix_same hRl hlt hget2
        rw [hC] at h3
        simp only [go_sem, Nat.reduceBEq, Nat.reduceLT, Nat.reduceAdd, Nat.reduceMul, Nat.reduceSub, Nat.reduceLeDiff, decide_true, ne_eq, Nat.reduceEqDiff, not_false_eq_true, Classical.not_not, Int.lt_irrefl, false_implies, g0, g1, g4, g5, g6]
        exact ⟨⟨by omega, by omega⟩, _, by omega, i + 1, rfl, rfl, by rw [h2]; rfl, rfl, rfl, by omega, by rw [← h3], rfl⟩
      · have hget2 : (rnd mv d D)[i]? = some d := by rw [hget, ← hnm, hnr]; simp [h1]
        have h2 := chg_set hRl hlt (by rw [hget2, hx]; simp; omega)
        have h3 := mix_set hRl hlt hget2
        rw [hC] at h3
        have hwr := own_write (f := AV.int) (l := C) (i := i) (y := d) (by omega)
        rw [h3] at hwr
        simp only [go_sem, Nat.reduceBEq, Nat.reduceLT, Nat.reduceAdd, Nat.reduceMul, Nat.reduceSub, Nat.reduceLeDiff, decide_true, ne_eq, Nat.reduceEqDiff, not_false_eq_true, Classical.not_not, Int.lt_irrefl, false_implies, g0, g1, g4, g5, g6, hml, hlen, hwr]
        exact ⟨by omega, by omega, ⟨by omega, by omega⟩, _, by omega, i + 1, rfl, rfl, by rw [h2]; rfl, rfl, rfl, by omega, rfl, rfl⟩
    · have hget2 : (rnd mv d D)[i]? = D[i]? := by rw [hget, hx]; simp [h1]
      have h2 := chg_same hRl hlt hget2
      have h3 := mix_same hRl hlt hget2
      rw [hC] at h3
      exact ⟨⟨by omega, by omega⟩, _, by omega, i + 1, rfl, rfl, by rw [h2]; rfl, rfl, rfl, by omega, by rw [← h3], rfl⟩
  · have : i = D.length := by omega
    subst this
    rw [mix_full hRl]
    have hch : chg (rnd mv d D) D D.length = decide (rnd mv d D ≠ D) := by unfold chg; rw [mix_full hRl]
    have hneg := rnd_neg (mv := mv) hpos (D := D)
    simp only [go_sem, Nat.reduceBEq, Nat.reduceLT, Nat.reduceAdd, Nat.reduceMul, Nat.reduceSub, Nat.reduceLeDiff, decide_true, ne_eq, Nat.reduceEqDiff, not_false_eq_true, Classical.not_not, Int.lt_irrefl, false_implies, g0, g1, g4, g5, g6, hlen]
    simp only [if_true] at hb
    refine ⟨⟨by omega, by omega⟩, _, ?_, rnd mv d D, d + 1, chg (rnd mv d D) D D.length, rfl, rfl, by rw [← hlen]; rfl, rfl, rfl, hL.next, fun hf => ?_, rfl, ?_⟩
    · rw [hch]
      by_cases he : rnd mv d D = D
      · simp [he]
      · have := hneg he
        simp [he]; omega
    · rw [hch, decide_eq_false_iff_not, Classical.not_not] at hf
      rw [hf]
      exact hL.done (by omega) hf
    · rw [hch]
      by_cases he : rnd mv d D = D
      · simp [he]; omega
      · have := hneg he
        simp [he]; omega
end Go.Proofs
end
section
/- Contracts: the spec's search, nodes closer by. -/
namespace Go.Proofs
open Go.AX AG
variable {gl : Globs}
set_option maxRecDepth 10000
set_option linter.unusedSimpArgs false

theorem spec_l4Closer (mv : List (List (List Int))) (D at_ : List Int) (k : Nat) (d : Int) (hl : mv.length = D.length) (hn : D.length ≤ 1048576) (hat : at_.length ≤ 1048576) (ha : ∀ a ∈ at_, 0 ≤ a ∧ a < D.length)
    (hk : ∀ r ∈ mv, k < r.length) (hr : ∀ r ∈ mv, ∀ r2 ∈ r, r2.length ≤ 1048576 ∧ ∀ x ∈ r2, 0 ≤ x ∧ x < D.length) :
    Pure Tryz.prog gl 76 [intsss mv, ints D, ints at_, .int k, .int d] (ints (closer mv D at_ k d)) := by
  have hbound : ∀ (o : List Int), o.Nodup → (∀ x ∈ o, 0 ≤ x ∧ x < D.length) → o.length ≤ 1048576 := fun o h1 h2 => Nat.le_trans (nodup_len _ o h1 h2) hn
  refine Pure.of (callWp_of (cf := ⟨64, [0, 1, 2, 3, 4, 10, 11, 12, 13, 14, 19, 35, 55], [], []⟩) (rs := [.tmp 10]) Tryz.func76 rfl (by decide) rfl rfl (by simp) ?_)
  simp only [go_sem, Nat.reduceBEq, Nat.reduceLT, Nat.reduceAdd, Nat.reduceMul, Nat.reduceSub, Nat.reduceLeDiff, decide_true, ne_eq, Nat.reduceEqDiff, not_false_eq_true, Classical.not_not, Int.lt_irrefl, false_implies]
  refine LoopWp.by (fun m ρ σ => ∃ (i : Nat) (out : AV), Acc 1 ((closerUp mv D at_ k d i).map eI) out σ ∧ get ρ 0 = intsss mv ∧ get ρ 1 = ints D ∧ get ρ 2 = ints at_ ∧ get ρ 3 = .int k ∧ get ρ 4 = .int d ∧ get ρ 11 = out ∧ get ρ 12 = .int i ∧ i ≤ at_.length ∧ m = at_.length - i ∧
      (closerUp mv D at_ k d i).Nodup ∧ ∀ x ∈ closerUp mv D at_ k d i, 0 ≤ x ∧ x < D.length) at_.length ?_ ?_
  · exact ⟨0, .mt, by simpa [closerUp] using Acc.mt 1, rfl, rfl, rfl, rfl, rfl, rfl, rfl, by omega, by omega, by simp [closerUp], by simp [closerUp]⟩
  rintro m ρ σ ⟨i, out, hA, g0, g1, g2, g3, g4, g11, g12, hi, rfl, hnd, hin⟩
  by_cases hlt : i < at_.length
  · obtain ⟨a, haa⟩ : ∃ a, at_[i]? = some a := ⟨_, List.getElem?_eq_getElem hlt⟩
    have ha2 := ha a (List.mem_of_getElem? haa)
    obtain ⟨r, hrr⟩ : ∃ r, mv[a.toNat]? = some r := ⟨_, List.getElem?_eq_getElem (by omega)⟩
    have hrm := List.mem_of_getElem? hrr
    obtain ⟨r2, hr2⟩ : ∃ r2, r[k]? = some r2 := ⟨_, List.getElem?_eq_getElem (hk r hrm)⟩
    have hrng := hr r hrm r2 (List.mem_of_getElem? hr2)
    have hup : closerUp mv D at_ k d (i + 1) = closerRow D d (closerUp mv D at_ k d i) r2 := by
      unfold closerUp
      rw [List.take_add_one, haa, List.foldl_append]
      simp [rowOf, hrr, hr2]
    simp only [go_sem, Nat.reduceBEq, Nat.reduceLT, Nat.reduceAdd, Nat.reduceMul, Nat.reduceSub, Nat.reduceLeDiff, decide_true, ne_eq, Nat.reduceEqDiff, not_false_eq_true, Classical.not_not, Int.lt_irrefl, false_implies, g0, g1, g2, g3, g4, g11, g12, haa, hrr, hr2]
    refine ⟨fun _ => ⟨by omega, ?_⟩, fun h => by omega⟩
    generalize hO : closerUp mv D at_ k d i = O at *
    have hpre : ∀ j, (closerRow D d O (r2.take j)).Nodup ∧ ∀ x ∈ closerRow D d O (r2.take j), 0 ≤ x ∧ x < D.length := fun j => by
      have h1 := closerRow_spec (D := D) (d := d) (r := r2.take j) (out := O)
      refine ⟨h1.2 hnd, fun x hx => ?_⟩
      rcases (h1.1 x).1 hx with h2 | ⟨h2, _⟩
      · exact hin x h2
      · exact hrng.2 x (List.mem_of_mem_take h2)
    refine LoopWp.by (fun m ρ σ => ∃ (j : Nat) (out : AV), Acc 1 ((closerRow D d O (r2.take j)).map eI) out σ ∧ get ρ 0 = intsss mv ∧ get ρ 1 = ints D ∧ get ρ 2 = ints at_ ∧ get ρ 3 = .int k ∧ get ρ 4 = .int d ∧ get ρ 11 = out ∧ get ρ 12 = .int i ∧ get ρ 13 = ints r2 ∧ get ρ 14 = .int j ∧ j ≤ r2.length ∧ m = r2.length - j) r2.length ?_ ?_
    · exact ⟨0, out, by simpa [closerRow] using hA, rfl, rfl, rfl, rfl, rfl, rfl, rfl, rfl, rfl, by omega, by omega⟩
    rintro m ρ σ ⟨j, out, hA, g0, g1, g2, g3, g4, g11, g12, g13, g14, hj, rfl⟩
    have hpj := hpre j
    by_cases hlt2 : j < r2.length
    · obtain ⟨x, hx⟩ : ∃ x, r2[j]? = some x := ⟨_, List.getElem?_eq_getElem hlt2⟩
      have hx2 := hrng.2 x (List.mem_of_getElem? hx)
      obtain ⟨y, hy⟩ : ∃ y, D[x.toNat]? = some y := ⟨_, List.getElem?_eq_getElem (by omega)⟩
      have hstep : closerRow D d O (r2.take (j + 1)) = bif decide (y = d) && !inL (closerRow D d O (r2.take j)) x then closerRow D d O (r2.take j) ++ [x] else closerRow D d O (r2.take j) := by
        rw [List.take_add_one, hx]
        simp only [closerRow, List.foldl_append, Option.toList_some, List.foldl_cons, List.foldl_nil, hy, Option.some.injEq]
      have hbd := hbound _ hpj.1 hpj.2
      generalize hR : closerRow D d O (r2.take j) = R at *
      simp only [go_sem, Nat.reduceBEq, Nat.reduceLT, Nat.reduceAdd, Nat.reduceMul, Nat.reduceSub, Nat.reduceLeDiff, decide_true, ne_eq, Nat.reduceEqDiff, not_false_eq_true, Classical.not_not, Int.lt_irrefl, false_implies, g0, g1, g2, g3, g4, g11, g12, g13, g14, hx, hy]
      refine ⟨fun _ => ⟨by omega, fun h1 => ?_, fun h1 => ?_⟩, fun h => by omega⟩
      · refine (Pure.seen [out, .int x] (spec_l4In R x hbd) ⟨hA.sees, Sees.refl _, trivial⟩).call ?_
        cases hin : inL R x
        · simp only [go_sem, Nat.reduceBEq, Nat.reduceLT, Nat.reduceAdd, Nat.reduceMul, Nat.reduceSub, Nat.reduceLeDiff, decide_true, ne_eq, Nat.reduceEqDiff, not_false_eq_true, Classical.not_not, Int.lt_irrefl, false_implies, g0, g1, g2, g3, g4, g11, g12, g13, g14, hx]
          refine hA.push (σ := []) (by simp) rfl (by omega) ⟨by simp; omega, by simp⟩ fun out' τ' hA' _ => ?_
          simp only [go_sem, Nat.reduceBEq, Nat.reduceLT, Nat.reduceAdd, Nat.reduceMul, Nat.reduceSub, Nat.reduceLeDiff, decide_true, ne_eq, Nat.reduceEqDiff, not_false_eq_true, Classical.not_not, Int.lt_irrefl, false_implies, g0, g1, g2, g3, g4, g11, g12, g13, g14]
          refine ⟨⟨by omega, by omega⟩, _, ?_, j + 1, out', ?_, rfl, rfl, rfl, rfl, rfl, rfl, rfl, rfl, rfl, by omega, rfl⟩
          · omega
          · rw [hstep]; simpa [h1, hin, eI] using hA'
        · simp only [go_sem, Nat.reduceBEq, Nat.reduceLT, Nat.reduceAdd, Nat.reduceMul, Nat.reduceSub, Nat.reduceLeDiff, decide_true, ne_eq, Nat.reduceEqDiff, not_false_eq_true, Classical.not_not, Int.lt_irrefl, false_implies, g0, g1, g2, g3, g4, g11, g12, g13, g14]
          refine ⟨⟨by omega, by omega⟩, _, ?_, j + 1, out, ?_, rfl, rfl, rfl, rfl, rfl, rfl, rfl, rfl, rfl, by omega, rfl⟩
          · omega
          · rw [hstep]; simpa [h1, hin] using hA
      · refine ⟨⟨by omega, by omega⟩, _, ?_, j + 1, out, ?_, rfl, rfl, rfl, rfl, rfl, rfl, rfl, rfl, rfl, by omega, rfl⟩
        · omega
        · rw [hstep]; simpa [h1] using hA
    · have : j = r2.length := by omega
      subst this
      rw [List.take_length, ← hup] at hA
      rw [List.take_length, ← hup] at hpj
      simp only [go_sem, Nat.reduceBEq, Nat.reduceLT, Nat.reduceAdd, Nat.reduceMul, Nat.reduceSub, Nat.reduceLeDiff, decide_true, ne_eq, Nat.reduceEqDiff, not_false_eq_true, Classical.not_not, Int.lt_irrefl, false_implies, g0, g1, g2, g3, g4, g11, g12, g13, g14]
      refine ⟨⟨by omega, by omega⟩, _, ?_, i + 1, out, hA, rfl, rfl, rfl, rfl, rfl, rfl, rfl, by omega, rfl, hpj.1, hpj.2⟩
      omega
  · have : i = at_.length := by omega
    subst this
    simp only [go_sem, Nat.reduceBEq, Nat.reduceLT, Nat.reduceAdd, Nat.reduceMul, Nat.reduceSub, Nat.reduceLeDiff, decide_true, ne_eq, Nat.reduceEqDiff, not_false_eq_true, Classical.not_not, Int.lt_irrefl, false_implies, g0, g1, g2, g3, g4, g11, g12]
    have : closerUp mv D at_ k d at_.length = closer mv D at_ k d := by unfold closerUp closer; rw [List.take_length]
    rw [this] at hA
    exact hA.sees
end Go.Proofs
end
section
/- Contracts: the spec's search, its first word. -/
namespace Go.Proofs
open Go.AX AG
variable {gl : Globs}
set_option maxRecDepth 10000
set_option linter.unusedSimpArgs false

theorem byte_letter {l : Int} (h : 0 ≤ l ∧ l < 6) : Value.int .u8 (IntKind.u8.wrap (97 + l)) = .int .u8 ((UInt8.ofNat (97 + l.toNat)).toNat : Nat) := by
  rw [Go.IntWalk.u8_in _ (by omega)]
  congr 1
  have : (UInt8.ofNat (97 + l.toNat)).toNat = 97 + l.toNat := by rw [UInt8.toNat_ofNat']; omega
  rw [this]; omega
theorem spec_l1Text (l : Int) (h : 0 ≤ l ∧ l < 6) : Pure Tryz.prog gl 77 [.int l] (.str [UInt8.ofNat (97 + l.toNat)]) := by
  refine callWp_of (cf := ⟨8, [0, 2], [], []⟩) (rs := [.tmp 2]) Tryz.func77 rfl (by decide) rfl rfl (by simp) ?_
  simp only [go_sem, Nat.reduceBEq, Nat.reduceLT, Nat.reduceAdd, Nat.reduceMul, Nat.reduceSub, Nat.reduceLeDiff, decide_true, ne_eq, Nat.reduceEqDiff, not_false_eq_true, Classical.not_not, Int.lt_irrefl, false_implies, byte_letter h]
  exact ⟨⟨by omega, by omega⟩, [UInt8.ofNat (97 + l.toNat)], rfl, rfl⟩

noncomputable def resW (o : Option (List Int)) : AV := .tup [.str (txt (o.getD [])), .bool o.isSome]

theorem spec_l4First (n : Nt) (hn : NtOk n) (hk : KindOk n) (hst : Vec n n.st) : Pure Tryz.prog gl 62 [.agg (eN n)] (resW (firstN n)) := by
  have hlp := hn.lp
  have hla := hn.la
  have htot := total_pos hn
  have hzl := szs_len n
  have hL6 : (letters n.al).length ≤ 6 := lettersUp_length _ _
  have hN : ((total n).toNat : Int) = total n := by omega
  refine Pure.of (callWp_of (cf := ⟨107, [0, 1, 2, 3, 4, 5, 6, 7, 8, 9, 10, 11, 12, 13, 14, 15, 21, 38, 52, 74, 86], [35], [1, 60, 64]⟩) (rs := [.tmp 2, .tmp 3]) Tryz.func62 rfl (by decide) rfl rfl (by simp) ?_)
  simp only [go_sem, Nat.reduceBEq, Nat.reduceLT, Nat.reduceAdd, Nat.reduceMul, Nat.reduceSub, Nat.reduceLeDiff, decide_true, ne_eq, Nat.reduceEqDiff, not_false_eq_true, Classical.not_not, Int.lt_irrefl, false_implies]
  refine (spec_l4Sizes n (by omega) (by omega)).call ?_
  simp only [go_sem, Nat.reduceBEq, Nat.reduceLT, Nat.reduceAdd, Nat.reduceMul, Nat.reduceSub, Nat.reduceLeDiff, decide_true, ne_eq, Nat.reduceEqDiff, not_false_eq_true, Classical.not_not, Int.lt_irrefl, false_implies]
  refine LoopWp.by (fun m ρ σ => ∃ i : Nat, get ρ 1 = .cptr (eN n) ∧ get ρ 4 = ints (szs n) ∧ get ρ 5 = .int (prd n i) ∧ get ρ 6 = .int i ∧ i ≤ (szs n).length ∧ σ = [] ∧ m = (szs n).length - i) (szs n).length ?_ ?_
  · exact ⟨0, rfl, rfl, rfl, rfl, by omega, rfl, by omega⟩
  rintro m ρ σ ⟨i, g1, g4, g5, g6, hi, rfl, rfl⟩
  by_cases hlt : i < (szs n).length
  · obtain ⟨s, hs⟩ : ∃ s, (szs n)[i]? = some s := ⟨_, List.getElem?_eq_getElem hlt⟩
    have h1 := szs_le hn hs
    have h2 := prd_pos hn (i := i) (by omega)
    have h3 := pow16 (i := i) (by omega)
    have h4 : 1 * 1 ≤ prd n i * s ∧ prd n i * s ≤ 1048576 * 16 := ⟨Int.mul_le_mul (by omega) (by omega) (by omega) (by omega), Int.mul_le_mul (by omega) h1.2 (by omega) (by omega)⟩
    simp only [go_sem, Nat.reduceBEq, Nat.reduceLT, Nat.reduceAdd, Nat.reduceMul, Nat.reduceSub, Nat.reduceLeDiff, decide_true, ne_eq, Nat.reduceEqDiff, not_false_eq_true, Classical.not_not, Int.lt_irrefl, false_implies, g1, g4, g5, g6, hs]
    exact ⟨fun _ => ⟨⟨by omega, by omega⟩, ⟨by omega, by omega⟩, _, by omega, i + 1, rfl, rfl, by rw [prd_fold hs]; rfl, rfl, by omega, rfl, rfl⟩, fun h => by omega⟩
  have hi2 : i = n.ps.length + n.as.length := by omega
  have hprd : prd n i = total n := by rw [hi2]; rfl
  rw [hprd] at g5
  simp only [go_sem, Nat.reduceBEq, Nat.reduceLT, Nat.reduceAdd, Nat.reduceMul, Nat.reduceSub, Nat.reduceLeDiff, decide_true, ne_eq, Nat.reduceEqDiff, not_false_eq_true, Classical.not_not, Int.lt_irrefl, false_implies, g1, g4, g5, g6]
  refine ⟨fun h => by omega, fun _ => ?_⟩
  refine (spec_l4Moves n hn).call ?_
  simp only [go_sem, Nat.reduceBEq, Nat.reduceLT, Nat.reduceAdd, Nat.reduceMul, Nat.reduceSub, Nat.reduceLeDiff, decide_true, ne_eq, Nat.reduceEqDiff, not_false_eq_true, Classical.not_not, Int.lt_irrefl, false_implies, g1, g4, g5]
  refine ⟨⟨by omega, by omega, by omega, by omega⟩, fun b => ?_⟩
  -- the goals' distances
  have hd0l := dists0_length n
  refine LoopWp.by (fun m ρ σ => ∃ i : Nat, get ρ 1 = .cptr (eN n) ∧ get ρ 4 = ints (szs n) ∧ get ρ 5 = .int (total n) ∧ get ρ 7 = intsss (moves n) ∧ get ρ 8 = .msl b 0 (total n).toNat (total n).toNat ∧ get ρ 9 = .int i ∧ i ≤ (total n).toNat ∧
    σ = [(b, .own ((mix (dists0 n) (List.replicate (total n).toNat 0) i).map AV.int))] ∧ m = (total n).toNat - i) (total n).toNat ?_ ?_
  · exact ⟨0, rfl, rfl, rfl, rfl, rfl, rfl, by omega, by rw [mix_zero, reps_one]; simp, by omega⟩
  rintro m ρ σ ⟨i, g1, g4, g5, g7, g8, g9, hi, rfl, rfl⟩
  have hrl : (dists0 n).length = (List.replicate (total n).toNat (0 : Int)).length := by simp [hd0l]
  have hrep : (List.replicate (total n).toNat (0 : Int)).length = (total n).toNat := by simp
  by_cases hlt : i < (total n).toNat
  · have hmv := moves_get hlt
    have hml := mix_length hrl i
    rw [hrep] at hml
    have hw1 := own_write (f := AV.int) (l := mix (dists0 n) (List.replicate (total n).toNat 0) i) (i := i) (y := -1) (by omega)
    have hw2 := own_write (f := AV.int) (l := (mix (dists0 n) (List.replicate (total n).toNat 0) i).set i (-1)) (i := i) (y := 0) (by simp; omega)
    have hset := mix_set hrl (i := i) (by simp; omega) (dists0_get hlt)
    rw [List.set_set] at hw2
    simp only [go_sem, Nat.reduceBEq, Nat.reduceLT, Nat.reduceAdd, Nat.reduceMul, Nat.reduceSub, Nat.reduceLeDiff, decide_true, ne_eq, Nat.reduceEqDiff, not_false_eq_true, Classical.not_not, Int.lt_irrefl, false_implies, g1, g4, g5, g7, g8, g9, hw1, hml]
    refine ⟨fun _ => ⟨by omega, by omega, ?_⟩, fun h => by omega⟩
    refine DrawK.text mixed (by kernel_rfl) ?_
    simp only [go_sem, Nat.reduceBEq, Nat.reduceLT, Nat.reduceAdd, Nat.reduceMul, Nat.reduceSub, Nat.reduceLeDiff, decide_true, ne_eq, Nat.reduceEqDiff, not_false_eq_true, Classical.not_not, Int.lt_irrefl, false_implies, g1, g4, g5, g7, g8, g9, hmv]
    refine ⟨_, spec_l4Decode (szs n) i (by omega) ⟨by omega, by omega⟩ (szs_pos hn), ?_⟩
    simp only [go_sem, Nat.reduceBEq, Nat.reduceLT, Nat.reduceAdd, Nat.reduceMul, Nat.reduceSub, Nat.reduceLeDiff, decide_true, ne_eq, Nat.reduceEqDiff, not_false_eq_true, Classical.not_not, Int.lt_irrefl, false_implies, g1, g4, g5, g7, g8, g9, hmv]
    refine ⟨_, spec_l4Found n hn hk (dec (szs n) i) (dec_vec hn (by omega)) (movesRow n i) (by simp [movesRow]; omega), ?_⟩
    cases hf : foundAt n (dec (szs n) i) (movesRow n i)
    · have e : dist0 n i = -1 := by simp [dist0, hf]
      rw [e] at hset
      simp only [go_sem, Nat.reduceBEq, Nat.reduceLT, Nat.reduceAdd, Nat.reduceMul, Nat.reduceSub, Nat.reduceLeDiff, decide_true, ne_eq, Nat.reduceEqDiff, not_false_eq_true, Classical.not_not, Int.lt_irrefl, false_implies, g1, g4, g5, g7, g8, g9]
      exact ⟨⟨by omega, by omega⟩, _, by omega, i + 1, rfl, rfl, rfl, rfl, rfl, rfl, by omega, by rw [hset], rfl⟩
    · have e : dist0 n i = 0 := by simp [dist0, hf]
      rw [e] at hset
      simp only [go_sem, Nat.reduceBEq, Nat.reduceLT, Nat.reduceAdd, Nat.reduceMul, Nat.reduceSub, Nat.reduceLeDiff, decide_true, ne_eq, Nat.reduceEqDiff, not_false_eq_true, Classical.not_not, Int.lt_irrefl, false_implies, g1, g4, g5, g7, g8, g9, hw2, hml, List.length_set]
      exact ⟨by omega, by omega, ⟨by omega, by omega⟩, _, by omega, i + 1, rfl, rfl, rfl, rfl, rfl, rfl, by omega, by rw [hset], rfl⟩
  have hi3 : i = (total n).toNat := by omega
  subst hi3
  have hmf := mix_full hrl
  rw [hrep] at hmf
  rw [hmf]
  simp only [go_sem, Nat.reduceBEq, Nat.reduceLT, Nat.reduceAdd, Nat.reduceMul, Nat.reduceSub, Nat.reduceLeDiff, decide_true, ne_eq, Nat.reduceEqDiff, not_false_eq_true, Classical.not_not, Int.lt_irrefl, false_implies, g1, g4, g5, g7, g8, g9]
  refine ⟨fun h => by omega, fun _ => ?_⟩
  have hrows := moves_rows hn
  have hdist := spec_l4Dist (gl := gl) (moves n) (dists0 n) (by rw [moves_length, hd0l]) (by omega) (fun j x hx => by
      simp only [dists0, List.getElem?_map] at hx
      cases hr : (List.range (total n).toNat)[j]? with
      | none => rw [hr] at hx; simp at hx
      | some y => rw [hr] at hx; simp only [Option.map_some, Option.some.injEq, dist0] at hx; split at hx <;> omega)
    (fun r hr => ⟨by have := (hrows r hr).1; omega, fun r2 h2 => ⟨((hrows r hr).2 r2 h2).1, fun x hx => by have := ((hrows r hr).2 r2 h2).2 x hx; unfold inN at this; omega⟩⟩) b
  rw [hd0l] at hdist
  refine hdist.mono ?_
  rintro r σ ⟨D, hD, rfl⟩
  have hDl : D.length = (total n).toNat := hD.len.trans hd0l
  have hstart := enc_in hn hst
  have hin := hstart
  unfold inN at hin
  simp only [go_sem, Nat.reduceBEq, Nat.reduceLT, Nat.reduceAdd, Nat.reduceMul, Nat.reduceSub, Nat.reduceLeDiff, decide_true, ne_eq, Nat.reduceEqDiff, not_false_eq_true, Classical.not_not, Int.lt_irrefl, false_implies, g1, g4, g5, g7, g8]
  refine (spec_l4Encode (szs n) n.st (by rw [hzl, hst.len]) (by omega) (fun i hi => ?_) (fun s hs => ?_) (fun s hs => ?_)).call ?_
  · have h1 := enc_take hn hst (i := i) (by omega)
    have h2 := prd_pos hn (i := i) (by omega)
    have h3 := pow16 (i := i) (by omega)
    omega
  · obtain ⟨j, hj⟩ := List.getElem?_of_mem hs
    have := szs_le hn hj; omega
  · obtain ⟨j, hj⟩ := List.getElem?_of_mem hs
    obtain ⟨s', h1, h2⟩ := hst.val j s hj
    have := szs_le hn h1; omega
  simp only [go_sem, Nat.reduceBEq, Nat.reduceLT, Nat.reduceAdd, Nat.reduceMul, Nat.reduceSub, Nat.reduceLeDiff, decide_true, ne_eq, Nat.reduceEqDiff, not_false_eq_true, Classical.not_not, Int.lt_irrefl, false_implies, g1, g4, g5, g7, g8]
  refine (spec_l1Letters n.al (by have := hn.al; omega)).call ?_
  have hrd := own_read (f := AV.int) (dfun_get hDl hstart)
  have hge := hD.ge _ _ (dfun_get hDl hstart)
  simp only [go_sem, Nat.reduceBEq, Nat.reduceLT, Nat.reduceAdd, Nat.reduceMul, Nat.reduceSub, Nat.reduceLeDiff, decide_true, ne_eq, Nat.reduceEqDiff, not_false_eq_true, Classical.not_not, Int.lt_irrefl, false_implies, g1, g4, g5, g7, g8, hrd, List.length_map, hDl, Int.reduceToNat]
  refine ⟨by omega, by omega, by omega, ?_⟩
  by_cases hneg : dfun D (enc (szs n) n.st) = -1
  · refine LoopWp.by (fun m ρ σ => get ρ 12 = .str [] ∧ get ρ 13 = .int (-1)) 0 ⟨rfl, by rw [hneg]; rfl⟩ ?_
    rintro m ρ σ ⟨g12, g13⟩
    simp only [go_sem, Nat.reduceBEq, Nat.reduceLT, Nat.reduceAdd, Nat.reduceMul, Nat.reduceSub, Nat.reduceLeDiff, decide_true, ne_eq, Nat.reduceEqDiff, not_false_eq_true, Classical.not_not, Int.lt_irrefl, false_implies, g12, g13]
    rw [firstN_none hn hD hstart hneg]
    refine ⟨fun h => by omega, fun _ => ?_⟩
    exact Sees.refl _
  obtain ⟨d0, hd0⟩ := Int.eq_ofNat_of_zero_le (show 0 ≤ dfun D (enc (szs n) n.st) by omega)
  have hL := distLaw hn hD
  refine LoopWp.byR (fun m ρ σ => ∃ (d : Nat) (u A : List Int), get ρ 7 = intsss (moves n) ∧ get ρ 8 = ints D ∧ get ρ 10 = ints A ∧ get ρ 11 = ints (letters n.al) ∧ get ρ 12 = .str (txt u) ∧ get ρ 13 = .int d ∧ σ = [] ∧ m = d ∧ u.length + d = d0 ∧ A ≠ [] ∧ A.length ≤ 1048576 ∧
    (∀ a ∈ A, inN n a ∧ dfun D a = d) ∧ ∀ w, Down (netSys n) (dfun D) (fun i => i ∈ A) d w → Down (netSys n) (dfun D) (fun i => i = enc (szs n) n.st) d0 (u ++ w)) d0 ?_ ?_
  · have hR := fun ρ (h : get ρ 8 = .msl b 0 (total n).toNat (total n).toNat) => Recast.gh (gl := gl) (τ := [(b, .own (D.map AV.int))]) (σ := []) (k := 8) (ρ := ρ) h (ints_lend hDl.symm (Nat.le_refl _))
    refine ⟨_, _, hR _ rfl, d0, [], [enc (szs n) n.st], rfl, rfl, rfl, rfl, rfl, by rw [hd0]; rfl, rfl, rfl, by simp, by simp, by simp, fun a ha => ?_, fun w hw => ?_⟩
    · simp only [List.mem_singleton] at ha; subst ha; exact ⟨hstart, hd0⟩
    · simpa using hw
  rintro m ρ σ ⟨d, u, A, g7, g8, g10, g11, g12, g13, rfl, hmd, hud, hA0, hAl, hAin, hdown⟩
  obtain rfl : d = m := hmd.symm
  cases d with
  | zero =>
    simp only [go_sem, Nat.reduceBEq, Nat.reduceLT, Nat.reduceAdd, Nat.reduceMul, Nat.reduceSub, Nat.reduceLeDiff, decide_true, ne_eq, Nat.reduceEqDiff, not_false_eq_true, Classical.not_not, Int.lt_irrefl, false_implies, g7, g8, g10, g11, g12, g13, Int.reduceLT, Int.natCast_zero, decide_false]
    rw [firstN_down hn hD hstart hd0 (by simpa using hdown [] (Down.nil _))]
    exact Sees.refl _
  | succ d =>
    obtain ⟨a0, ha0⟩ := List.exists_mem_of_ne_nil A hA0
    obtain ⟨l0, hl0, j0, hE0, hj0⟩ := hL.down a0 (hAin a0 ha0).1 (by rw [(hAin a0 ha0).2]; omega)
    rw [(hAin a0 ha0).2] at hj0
    obtain ⟨k0, hk0⟩ := List.getElem?_of_mem hl0
    have hk0L : k0 < (letters n.al).length := (List.getElem?_eq_some_iff.1 hk0).1
    have hcm := fun {k : Nat} {l : Int} (h : (letters n.al)[k]? = some l) (j : Int) => closer_mem hn hDl (fun a ha => (hAin a ha).1) h (d : Int) j
    have hne0 : closer (moves n) D A k0 d ≠ [] := fun h => by
      have := (hcm hk0 j0).2 ⟨a0, ha0, hE0, by omega⟩
      rw [h] at this; cases this
    have hdd : ((d + 1 : Nat) : Int) - 1 = (d : Int) := by omega
    have hcl := fun (k : Nat) (hk : k < (letters n.al).length) => spec_l4Closer (gl := gl) (moves n) D A k d (by rw [moves_length, hDl]) (by omega) hAl (fun a ha => by have := (hAin a ha).1; unfold inN at this; omega) (fun r hr => by have := (hrows r hr).1; omega)
      (fun r hr r2 h2 => ⟨((hrows r hr).2 r2 h2).1, fun x hx => by have := ((hrows r hr).2 r2 h2).2 x hx; unfold inN at this; omega⟩)
    have hI : I64 (((d + 1 : Nat) : Int) - 1) := by have := hge.2; constructor <;> omega
    simp only [go_sem, Nat.reduceBEq, Nat.reduceLT, Nat.reduceAdd, Nat.reduceMul, Nat.reduceSub, Nat.reduceLeDiff, decide_true, ne_eq, Nat.reduceEqDiff, not_false_eq_true, Classical.not_not, Int.lt_irrefl, false_implies, g7, g8, g10, g11, g12, g13, hdd]
    refine ⟨fun _ => ⟨⟨by omega, by omega⟩, ?_⟩, fun h => by omega⟩
    refine (hcl 0 (by omega)).call ?_
    simp only [go_sem, Nat.reduceBEq, Nat.reduceLT, Nat.reduceAdd, Nat.reduceMul, Nat.reduceSub, Nat.reduceLeDiff, decide_true, ne_eq, Nat.reduceEqDiff, not_false_eq_true, Classical.not_not, Int.lt_irrefl, false_implies, g7, g8, g10, g11, g12, g13]
    refine LoopWp.by (fun m ρ σ => ∃ k : Nat, get ρ 7 = intsss (moves n) ∧ get ρ 8 = ints D ∧ get ρ 10 = ints A ∧ get ρ 11 = ints (letters n.al) ∧ get ρ 12 = .str (txt u) ∧ get ρ 13 = .int (d + 1 : Nat) ∧ get ρ 14 = .int k ∧ get ρ 15 = ints (closer (moves n) D A k d) ∧ σ = [] ∧
      m = k0 - k ∧ k ≤ k0 ∧ ∀ k' < k, closer (moves n) D A k' d = []) k0 ?_ ?_
    · exact ⟨0, rfl, rfl, rfl, rfl, rfl, rfl, rfl, rfl, rfl, rfl, by omega, fun k' hk' => by omega⟩
    rintro m ρ σ ⟨k, g7, g8, g10, g11, g12, g13, g14, g15, rfl, rfl, hk, hprev⟩
    obtain ⟨l, hl⟩ : ∃ l, (letters n.al)[k]? = some l := ⟨_, List.getElem?_eq_getElem (by omega)⟩
    have hlm := List.mem_of_getElem? hl
    have hl6 := letters_6 _ l hlm
    have hlen0 : ((closer (moves n) D A k d).length : Int) = 0 → closer (moves n) D A k d = [] := fun h => List.eq_nil_of_length_eq_zero (by omega)
    simp only [go_sem, Nat.reduceBEq, Nat.reduceLT, Nat.reduceAdd, Nat.reduceMul, Nat.reduceSub, Nat.reduceLeDiff, decide_true, ne_eq, Nat.reduceEqDiff, not_false_eq_true, Classical.not_not, Int.lt_irrefl, false_implies, g7, g8, g10, g11, g12, g13, g14, g15, hdd]
    refine ⟨fun h => ?_, fun h => ?_⟩
    · have hemp := hlen0 h
      have hlt : k < k0 := by
        rcases Nat.lt_or_ge k k0 with h1 | h1
        · exact h1
        · have : k = k0 := by omega
          subst this; exact absurd hemp hne0
      refine ⟨⟨by omega, by omega⟩, ⟨by omega, by omega⟩, ?_⟩
      refine (hcl (k + 1) (by omega)).call ?_
      simp only [go_sem, Nat.reduceBEq, Nat.reduceLT, Nat.reduceAdd, Nat.reduceMul, Nat.reduceSub, Nat.reduceLeDiff, decide_true, ne_eq, Nat.reduceEqDiff, not_false_eq_true, Classical.not_not, Int.lt_irrefl, false_implies, g7, g8, g10, g11, g12, g13, g14, g15]
      refine ⟨_, ?_, k + 1, rfl, rfl, rfl, rfl, rfl, rfl, rfl, rfl, rfl, rfl, by omega, fun k' hk' => ?_⟩
      · omega
      · by_cases he : k' = k
        · subst he; exact hemp
        · exact hprev k' (by omega)
    · have hne : closer (moves n) D A k d ≠ [] := fun he => h (by rw [he]; rfl)
      have hul : (txt u).length = u.length := by simp [txt]
      simp only [go_sem, Nat.reduceBEq, Nat.reduceLT, Nat.reduceAdd, Nat.reduceMul, Nat.reduceSub, Nat.reduceLeDiff, decide_true, ne_eq, Nat.reduceEqDiff, not_false_eq_true, Classical.not_not, Int.lt_irrefl, false_implies, hl, g7, g8, g10, g11, g12, g13, g14, g15]
      refine (spec_l1Text l hl6).call ?_
      have hnd : (closer (moves n) D A k d).Nodup := closer_fold.2 List.nodup_nil
      have hCin : ∀ x ∈ closer (moves n) D A k d, inN n x ∧ dfun D x = d := fun x hx => by
        obtain ⟨i, h1, h2, h3⟩ := (hcm hl x).1 hx
        exact ⟨(nexts_in hn (hAin i h1).1.1 hl6).2 x h2, h3⟩
      have hge2 := hge.2
      simp only [go_sem, Nat.reduceBEq, Nat.reduceLT, Nat.reduceAdd, Nat.reduceMul, Nat.reduceSub, Nat.reduceLeDiff, decide_true, ne_eq, Nat.reduceEqDiff, not_false_eq_true, Classical.not_not, Int.lt_irrefl, false_implies, g7, g8, g10, g11, g12, g13, g14, g15, hdd]
      refine ⟨⟨by omega, by omega⟩, ⟨by omega, by omega⟩, _, _, Recast.refl _ _, d, by omega, d, u ++ [l], closer (moves n) D A k d, rfl, rfl, rfl, rfl, ?_, ?_, rfl, rfl, ?_, hne, ?_, hCin, fun w hw => ?_⟩
      · rw [txt_snoc]; rfl
      · rfl
      · simp; omega
      · exact Nat.le_trans (nodup_len (total n).toNat _ hnd fun x hx => by have := (hCin x hx).1; unfold inN at this; omega) (by omega)
      · rw [List.append_assoc]
        refine hdown _ (Down.cons hlm (fun j => hcm hl j) (by obtain ⟨x, hx⟩ := List.exists_mem_of_ne_nil _ hne; exact ⟨x, hx⟩) (fun x hx hxl => ?_) hw)
        rintro ⟨i, j, h1, h2, h3⟩
        obtain ⟨k', hk'⟩ : ∃ k', (letters n.al)[k']? = some x := List.getElem?_of_mem hx
        have hkk : k' < k := by
          rcases Nat.lt_or_ge k' k with h4 | h4
          · exact h4
          · exfalso
            have hs := letters_sorted n.al
            rw [List.pairwise_iff_getElem] at hs
            obtain ⟨p1, q1⟩ := List.getElem?_eq_some_iff.1 hk'
            obtain ⟨p2, q2⟩ := List.getElem?_eq_some_iff.1 hl
            rcases Nat.lt_or_ge k k' with h5 | h5
            · have := hs k k' p2 p1 h5; omega
            · have : k = k' := by omega
              subst this; omega
        have := (hcm hk' j).2 ⟨i, h1, h2, h3⟩
        rw [hprev k' hkk] at this
        cases this
end Go.Proofs
end
section
/- Contracts: the spec's violations and repairs. -/
namespace Go.Proofs
open Go.AX AG
variable {gl : Globs}
set_option maxRecDepth 10000
set_option linter.unusedSimpArgs false

theorem spec_PartsViolation (l : List Ts) (p : Au) (hl : ∀ s ∈ l, s.ed.length ≤ 1048576) (h1 : p.nx.length ≤ 1048576) (h2 : ∀ r ∈ p.nx, r.length ≤ 1048576) : Pure Tryz.prog gl 44 [systems l, .agg (eA p)] (resW (violW l p)) := by
  refine callWp_of (cf := ⟨28, [0, 1, 3, 4, 5, 6, 15], [], [3]⟩) (rs := [.tmp 4, .tmp 5]) Tryz.func44 rfl (by decide) rfl rfl (by simp) ?_
  simp only [go_sem, Nat.reduceBEq, Nat.reduceLT, Nat.reduceAdd, Nat.reduceMul, Nat.reduceSub, Nat.reduceLeDiff, decide_true, ne_eq, Nat.reduceEqDiff, not_false_eq_true, Classical.not_not, Int.lt_irrefl, false_implies]
  refine (spec_PartsAlphabet l hl).call ?_
  have hneg := partsAl_neg l
  simp only [go_sem, Nat.reduceBEq, Nat.reduceLT, Nat.reduceAdd, Nat.reduceMul, Nat.reduceSub, Nat.reduceLeDiff, decide_true, ne_eq, Nat.reduceEqDiff, not_false_eq_true, Classical.not_not, Int.lt_irrefl, false_implies]
  cases hok : partsOk l
  · rw [hok] at hneg
    refine ⟨fun h => ?_, fun h => absurd (hneg.2 rfl) h⟩
    simp [violW, hok, resW, txt]
  have hlen := partsOk_len hok
  rw [hok] at hneg
  refine ⟨fun h => absurd (hneg.1 h) (by simp), fun _ => ?_⟩
  refine (spec_AutomatonValid p h1 h2).call ?_
  cases hp : autOk p
  · simp only [go_sem, Nat.reduceBEq, Nat.reduceLT, Nat.reduceAdd, Nat.reduceMul, Nat.reduceSub, Nat.reduceLeDiff, decide_true, ne_eq, Nat.reduceEqDiff, not_false_eq_true, Classical.not_not, Int.lt_irrefl, false_implies]
    simp [violW, hok, hp, resW, txt]
  simp only [go_sem, Nat.reduceBEq, Nat.reduceLT, Nat.reduceAdd, Nat.reduceMul, Nat.reduceSub, Nat.reduceLeDiff, decide_true, ne_eq, Nat.reduceEqDiff, not_false_eq_true, Classical.not_not, Int.lt_irrefl, false_implies]
  refine DrawK.text mixed (by kernel_rfl) ?_
  have e : ((l.length : Int) + 1).toNat = l.length + 1 := by omega
  simp only [go_sem, Nat.reduceBEq, Nat.reduceLT, Nat.reduceAdd, Nat.reduceMul, Nat.reduceSub, Nat.reduceLeDiff, decide_true, ne_eq, Nat.reduceEqDiff, not_false_eq_true, Classical.not_not, Int.lt_irrefl, false_implies, e]
  refine ⟨⟨by omega, by omega⟩, ⟨by omega, by omega, by omega⟩, ?_⟩
  have hn := partsNet_ok hl hok hp
  have := spec_l4First (gl := gl) (partsNet l p) hn (partsNet_kind l p) (by have := zero_vec hn; simpa [partsNet] using this)
  simp only [eN, partsNet, systems, automata, ints, List.map_replicate, List.map_cons, List.map_nil, eI] at this
  refine ⟨_, this, ?_⟩
  rw [violW, hok, hp]
  simp only [go_sem, Nat.reduceBEq, Nat.reduceLT, Nat.reduceAdd, Nat.reduceMul, Nat.reduceSub, Nat.reduceLeDiff, decide_true, ne_eq, Nat.reduceEqDiff, not_false_eq_true, Classical.not_not, Int.lt_irrefl, false_implies, resW]
  rfl
theorem spec_PartsKeep (l : List Ts) (p : Au) (hl : ∀ s ∈ l, s.ed.length ≤ 1048576) (h1 : p.nx.length ≤ 1048576) (h2 : ∀ r ∈ p.nx, r.length ≤ 1048576) : Pure Tryz.prog gl 23 [systems l, .agg (eA p)] (.bool (keeps l p)) := by
  refine callWp_of (cf := ⟨24, [0, 1, 3, 4, 6], [], [3]⟩) (rs := [.tmp 4]) Tryz.func23 rfl (by decide) rfl rfl (by simp) ?_
  simp only [go_sem, Nat.reduceBEq, Nat.reduceLT, Nat.reduceAdd, Nat.reduceMul, Nat.reduceSub, Nat.reduceLeDiff, decide_true, ne_eq, Nat.reduceEqDiff, not_false_eq_true, Classical.not_not, Int.lt_irrefl, false_implies]
  refine (spec_PartsViolation l p hl h1 h2).call ?_
  simp only [go_sem, Nat.reduceBEq, Nat.reduceLT, Nat.reduceAdd, Nat.reduceMul, Nat.reduceSub, Nat.reduceLeDiff, decide_true, ne_eq, Nat.reduceEqDiff, not_false_eq_true, Classical.not_not, Int.lt_irrefl, false_implies, resW]
  refine (spec_PartsAlphabet l hl).call ?_
  have hneg := partsAl_neg l
  simp only [go_sem, Nat.reduceBEq, Nat.reduceLT, Nat.reduceAdd, Nat.reduceMul, Nat.reduceSub, Nat.reduceLeDiff, decide_true, ne_eq, Nat.reduceEqDiff, not_false_eq_true, Classical.not_not, Int.lt_irrefl, false_implies]
  cases hok : partsOk l
  · rw [hok] at hneg
    refine ⟨fun h => by have := hneg.2 rfl; omega, fun h => ?_⟩
    simp [keeps, hok]
  rw [hok] at hneg
  refine ⟨fun _ => ?_, fun h => by have : ¬ partsAl l < 0 := (fun h => absurd (hneg.1 h) (by simp)); omega⟩
  refine (spec_AutomatonValid p h1 h2).call ?_
  cases hp : autOk p
  · simp only [go_sem, Nat.reduceBEq, Nat.reduceLT, Nat.reduceAdd, Nat.reduceMul, Nat.reduceSub, Nat.reduceLeDiff, decide_true, ne_eq, Nat.reduceEqDiff, not_false_eq_true, Classical.not_not, Int.lt_irrefl, false_implies]
    simp [keeps, hok, hp]
  simp only [go_sem, Nat.reduceBEq, Nat.reduceLT, Nat.reduceAdd, Nat.reduceMul, Nat.reduceSub, Nat.reduceLeDiff, decide_true, ne_eq, Nat.reduceEqDiff, not_false_eq_true, Classical.not_not, Int.lt_irrefl, false_implies]
  simp [keeps, hok, hp]
theorem spec_RepairEdges (l : List Ts) (p : Au) (part : Int) (hll : l.length ≤ 1048576) (hl : ∀ s ∈ l, s.ed.length ≤ 1048576) (h1 : p.nx.length ≤ 1048576) (h2 : ∀ r ∈ p.nx, r.length ≤ 1048576) : Pure Tryz.prog gl 6 [systems l, .agg (eA p), .int part] (edges (repair l p part)) := by
  refine Pure.of (callWp_of (cf := ⟨66, [0, 1, 2, 4, 6, 7, 8, 9, 27, 36, 53], [41], [4]⟩) (rs := [.tmp 6]) Tryz.func6 rfl (by decide) rfl rfl (by simp) ?_)
  simp only [go_sem, Nat.reduceBEq, Nat.reduceLT, Nat.reduceAdd, Nat.reduceMul, Nat.reduceSub, Nat.reduceLeDiff, decide_true, ne_eq, Nat.reduceEqDiff, not_false_eq_true, Classical.not_not, Int.lt_irrefl, false_implies]
  refine (spec_PartsAlphabet l hl).call ?_
  have hneg := partsAl_neg l
  simp only [go_sem, Nat.reduceBEq, Nat.reduceLT, Nat.reduceAdd, Nat.reduceMul, Nat.reduceSub, Nat.reduceLeDiff, decide_true, ne_eq, Nat.reduceEqDiff, not_false_eq_true, Classical.not_not, Int.lt_irrefl, false_implies]
  have hbad : ¬ ((partsOk l && autOk p) = true ∧ 0 ≤ part ∧ part < l.length) → Sees gl [] .nils (edges (repair l p part)) := fun h => by
    rw [repair, if_neg h]; exact Sees.nil
  cases hok : partsOk l
  · rw [hok] at hneg
    refine ⟨fun h => hbad (by simp [hok]), fun h => absurd (hneg.2 rfl) h⟩
  have hlen := partsOk_len hok
  rw [hok] at hneg
  refine ⟨fun h => absurd (hneg.1 h) (by simp), fun _ => ?_⟩
  refine (spec_AutomatonValid p h1 h2).call ?_
  cases hp : autOk p
  · simp only [go_sem, Nat.reduceBEq, Nat.reduceLT, Nat.reduceAdd, Nat.reduceMul, Nat.reduceSub, Nat.reduceLeDiff, decide_true, ne_eq, Nat.reduceEqDiff, not_false_eq_true, Classical.not_not, Int.lt_irrefl, false_implies]
    exact hbad (by simp [hp])
  simp only [go_sem, Nat.reduceBEq, Nat.reduceLT, Nat.reduceAdd, Nat.reduceMul, Nat.reduceSub, Nat.reduceLeDiff, decide_true, ne_eq, Nat.reduceEqDiff, not_false_eq_true, Classical.not_not, Int.lt_irrefl, false_implies]
  refine ⟨fun h => hbad (by omega), fun h0 => ⟨fun h => hbad (by omega), fun h3 => ?_⟩⟩
  obtain ⟨pt, rfl⟩ := Int.eq_ofNat_of_zero_le (show 0 ≤ part by omega)
  obtain ⟨s, hs⟩ : ∃ s, l[pt]? = some s := ⟨_, List.getElem?_eq_getElem (by omega)⟩
  have hsl := hl s (List.mem_of_getElem? hs)
  have hrep : repair l p pt = repUp l p pt s s.ed.length := by rw [repair, if_pos ⟨by simp [hok, hp], by omega, by omega⟩]; simp [hs]
  refine LoopWp.byT (fun m ρ σ => ∃ (k : Nat) (out : AV), Acc 3 ((repUp l p pt s k).map eE) out σ ∧ get ρ 0 = systems l ∧ get ρ 2 = .int pt ∧ get ρ 4 = .cptr (eA p) ∧ get ρ 7 = out ∧ get ρ 8 = .int k ∧ k ≤ s.ed.length ∧ m = s.ed.length - k) s.ed.length ?_ ?_
  · exact ⟨_, Turn.refl _, 0, .mt, Acc.mt 3, rfl, rfl, rfl, rfl, rfl, by omega, by omega⟩
  rintro m ρ σ ⟨k, out, hA, g0, g2, g4, g7, g8, hk, rfl⟩
  by_cases hlt : k < s.ed.length
  · obtain ⟨e, he⟩ : ∃ e, s.ed[k]? = some e := ⟨_, List.getElem?_eq_getElem hlt⟩
    simp only [go_sem, Nat.reduceBEq, Nat.reduceLT, Nat.reduceAdd, Nat.reduceMul, Nat.reduceSub, Nat.reduceLeDiff, decide_true, ne_eq, Nat.reduceEqDiff, not_false_eq_true, Classical.not_not, Int.lt_irrefl, false_implies, g0, g2, g4, g7, g8, hs]
    refine ⟨fun _ => ?_, fun h => by omega⟩
    refine append_own (.inl rfl) rowsIn_list (by decide) (by simp; intro h; subst h; simp at hs) ⟨by simp; omega, by simp⟩ fun b c rest hf hc hcl => ?_
    have hrl : (l.map eS).flatten.length = l.length * 3 := flat_len (sz := 3) (fun _ => rfl) l
    simp only [go_sem, Nat.reduceBEq, Nat.reduceLT, Nat.reduceAdd, Nat.reduceMul, Nat.reduceSub, Nat.reduceLeDiff, decide_true, ne_eq, Nat.reduceEqDiff, not_false_eq_true, Classical.not_not, Int.lt_irrefl, false_implies, g0, g2, g4, g7, g8, hs]
    refine (spec_l17Drop s k hlt hsl).call ?_
    have hwr : splice ((l.map eS).flatten ++ rest) (pt * 3) (eS (dropAt s k)) = ((l.set pt (dropAt s k)).map eS).flatten ++ rest := by
      rw [splice_app (by rw [hrl]; simp [eS]; omega), rows_write (sz := 3) (fun _ => rfl) (by omega)]
    simp only [eS, edges] at hwr
    simp only [go_sem, Nat.reduceBEq, Nat.reduceLT, Nat.reduceAdd, Nat.reduceMul, Nat.reduceSub, Nat.reduceLeDiff, decide_true, ne_eq, Nat.reduceEqDiff, not_false_eq_true, Classical.not_not, Int.lt_irrefl, false_implies, g0, g2, g4, g7, g8, hs, hwr, List.length_append, hrl]
    have hl2 : (l.set pt (dropAt s k)).length = l.length := by simp
    have hgh : Gh gl [(b, .own (((l.set pt (dropAt s k)).map eS).flatten ++ rest))] (.msl b 0 l.length c) [] (systems (l.set pt (dropAt s k))) := by
      have := Gh.rows (gl := gl) (b := b) (c := c) (rest := rest) (rows_eS (l.set pt (dropAt s k))) (by simpa using hc)
      simpa [systems] using this
    refine ⟨by omega, by omega, ?_⟩
    refine Pure.lend (τ := [(b, .own (((l.set pt (dropAt s k)).map eS).flatten ++ rest))]) (σ := σ) (spec_PartsKeep (l.set pt (dropAt s k)) p (fun t ht => ?_) h1 h2) (Gh.cons hgh (Gh.cons (Gh.of (Sees.refl _)) GhAll.nil)) rfl ?_
    · rcases List.mem_or_eq_of_mem_set ht with ht | rfl
      · exact hl t ht
      · exact Nat.le_trans (dropAt_len s k) hsl
    have hrl2 := repUp_length l p pt s k
    have hstep : repUp l p pt s (k + 1) = repUp l p pt s k ++ if keeps (l.set pt (dropAt s k)) p = true then [e] else [] := by simp only [repUp, he]
    cases hkp : keeps (l.set pt (dropAt s k)) p
    · rw [hkp, if_neg (by simp), List.append_nil] at hstep
      simp only [go_sem, Nat.reduceBEq, Nat.reduceLT, Nat.reduceAdd, Nat.reduceMul, Nat.reduceSub, Nat.reduceLeDiff, decide_true, ne_eq, Nat.reduceEqDiff, not_false_eq_true, Classical.not_not, Int.lt_irrefl, false_implies, g0, g2, g4, g7, g8]
      refine ⟨⟨by omega, by omega⟩, _, Turn.sub (List.sublist_cons_self _ _), _, ?_, k + 1, out, by rw [hstep]; exact hA, rfl, rfl, rfl, rfl, rfl, by omega, rfl⟩
      omega
    · rw [hkp, if_pos rfl] at hstep
      simp only [go_sem, Nat.reduceBEq, Nat.reduceLT, Nat.reduceAdd, Nat.reduceMul, Nat.reduceSub, Nat.reduceLeDiff, decide_true, ne_eq, Nat.reduceEqDiff, not_false_eq_true, Classical.not_not, Int.lt_irrefl, false_implies, g0, g2, g4, g7, g8, hs, he]
      refine hA.pushB (τp := [(b, .own (((l.set pt (dropAt s k)).map eS).flatten ++ rest))]) (σ := []) (Dj.one hf) (by simp) rfl (by decide) ⟨by simp; omega, by simp⟩ fun out' τ' hA' _ => ?_
      simp only [go_sem, Nat.reduceBEq, Nat.reduceLT, Nat.reduceAdd, Nat.reduceMul, Nat.reduceSub, Nat.reduceLeDiff, decide_true, ne_eq, Nat.reduceEqDiff, not_false_eq_true, Classical.not_not, Int.lt_irrefl, false_implies, g0, g2, g4, g7, g8]
      refine ⟨⟨by omega, by omega⟩, _, Turn.sub (List.sublist_append_left τ' _), _, ?_, k + 1, out', by rw [hstep, List.map_append]; exact hA', rfl, rfl, rfl, rfl, rfl, by omega, rfl⟩
      omega
  · have : k = s.ed.length := by omega
    subst this
    simp only [go_sem, Nat.reduceBEq, Nat.reduceLT, Nat.reduceAdd, Nat.reduceMul, Nat.reduceSub, Nat.reduceLeDiff, decide_true, ne_eq, Nat.reduceEqDiff, not_false_eq_true, Classical.not_not, Int.lt_irrefl, false_implies, g0, g2, g4, g7, g8, hs]
    rw [hrep]
    exact hA.sees
end Go.Proofs
end
