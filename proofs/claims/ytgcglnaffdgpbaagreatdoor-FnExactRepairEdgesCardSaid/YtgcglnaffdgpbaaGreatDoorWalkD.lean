/- Contracts of the functions that the law reaches. -/
import Derived.Test.YtgcglnaffdgpbaaGreatDoorWalkC
import Derived.Test.YtgcglnaffdgpbaaGreatDoorPlainB
section
/- Contracts: the impl's order of edges, checks of systems and automata. -/
namespace Go.Proofs
open Go.AX AG
variable {gl : Globs}
set_option maxRecDepth 10000
set_option linter.unusedSimpArgs false

theorem lib_isNaN (x : Int) : Pure Tryz.prog gl 78 [.int x] (.bool false) := by
  refine callWp_of (cf := ⟨6, [0, 2], [], []⟩) (rs := [.tmp 2]) Tryz.func78 rfl (by decide) rfl rfl (by simp) ?_
  simp only [go_sem, Nat.reduceBEq, Nat.reduceLT, Nat.reduceAdd, Nat.reduceMul, Nat.reduceSub, Nat.reduceLeDiff, decide_true, ne_eq, Nat.reduceEqDiff, not_false_eq_true, Classical.not_not, Int.lt_irrefl, false_implies]
  simp
theorem lib_Compare (x y : Int) : Pure Tryz.prog gl 68 [.int x, .int y] (.int (cmpI x y)) := by
  refine callWp_of (cf := ⟨20, [0, 1, 4, 5, 6, 11, 12, 13, 16, 19], [], []⟩) (rs := [.tmp 4]) Tryz.func68 rfl (by decide) rfl rfl (by simp) ?_
  simp only [go_sem, Nat.reduceBEq, Nat.reduceLT, Nat.reduceAdd, Nat.reduceMul, Nat.reduceSub, Nat.reduceLeDiff, decide_true, ne_eq, Nat.reduceEqDiff, not_false_eq_true, Classical.not_not, Int.lt_irrefl, false_implies]
  refine (lib_isNaN x).call ?_
  simp only [go_sem, Nat.reduceBEq, Nat.reduceLT, Nat.reduceAdd, Nat.reduceMul, Nat.reduceSub, Nat.reduceLeDiff, decide_true, ne_eq, Nat.reduceEqDiff, not_false_eq_true, Classical.not_not, Int.lt_irrefl, false_implies]
  refine (lib_isNaN y).call ?_
  simp only [go_sem, Nat.reduceBEq, Nat.reduceLT, Nat.reduceAdd, Nat.reduceMul, Nat.reduceSub, Nat.reduceLeDiff, decide_true, ne_eq, Nat.reduceEqDiff, not_false_eq_true, Classical.not_not, Int.lt_irrefl, false_implies]
  refine ⟨fun h => by simp [cmpI, h], fun h => ⟨fun h2 => ?_, fun h2 => ?_⟩⟩
  · simp [cmpI, h, h2]
  · simp [cmpI, h, h2]
theorem lib_Or (l : List Int) (hl : l.length ≤ 1048576) : Pure Tryz.prog gl 67 [ints l] (.int (orI l)) := by
  refine callWp_of (cf := ⟨18, [0, 2, 3, 5, 6, 7, 8, 9, 14], [], []⟩) (rs := [.tmp 2]) Tryz.func67 rfl (by decide) rfl rfl (by simp) ?_
  simp only [go_sem, Nat.reduceBEq, Nat.reduceLT, Nat.reduceAdd, Nat.reduceMul, Nat.reduceSub, Nat.reduceLeDiff, decide_true, ne_eq, Nat.reduceEqDiff, not_false_eq_true, Classical.not_not, Int.lt_irrefl, false_implies]
  refine LoopWp.by (fun m ρ σ => ∃ i : Nat, get ρ 3 = .int 0 ∧ get ρ 6 = ints l ∧ get ρ 7 = .int l.length ∧ get ρ 8 = .int i ∧ i ≤ l.length ∧ orI l = orI (l.drop i) ∧ σ = [] ∧ m = l.length - i) l.length ?_ ?_
  · exact ⟨0, rfl, rfl, rfl, rfl, by omega, by simp, rfl, by omega⟩
  rintro m ρ σ ⟨i, g3, g6, g7, g8, hi, hor, rfl, rfl⟩
  by_cases hlt : i < l.length
  · obtain ⟨x, hx⟩ : ∃ x, l[i]? = some x := ⟨_, List.getElem?_eq_getElem hlt⟩
    have hd : l.drop i = x :: l.drop (i + 1) := by
      rw [List.drop_eq_getElem_cons hlt]; congr 1; exact (List.getElem?_eq_some_iff.1 hx).2
    rw [hd] at hor
    simp only [go_sem, Nat.reduceBEq, Nat.reduceLT, Nat.reduceAdd, Nat.reduceMul, Nat.reduceSub, Nat.reduceLeDiff, decide_true, ne_eq, Nat.reduceEqDiff, not_false_eq_true, Classical.not_not, Int.lt_irrefl, false_implies, g3, g6, g7, g8, hx]
    refine ⟨fun _ => ⟨fun h => ?_, fun h => ?_⟩, fun h => by omega⟩
    · rw [hor]; simp [orI, h]
    · exact ⟨⟨by omega, by omega⟩, _, by omega, i + 1, rfl, rfl, rfl, rfl, by omega, by rw [hor]; simp [orI, h], rfl, rfl⟩
  · have : i = l.length := by omega
    subst this
    simp only [go_sem, Nat.reduceBEq, Nat.reduceLT, Nat.reduceAdd, Nat.reduceMul, Nat.reduceSub, Nat.reduceLeDiff, decide_true, ne_eq, Nat.reduceEqDiff, not_false_eq_true, Classical.not_not, Int.lt_irrefl, false_implies, g3, g6, g7, g8]
    rw [hor]; simp [orI]
theorem impl_compareEdges (e f : Ed) : Pure Tryz.prog gl 53 [.agg (eE e), .agg (eE f)] (.int (edCmp e f)) := by
  refine callWp_of (cf := ⟨22, [0, 1, 2, 3, 4], [], [2, 3, 5, 7, 10, 12, 15, 17]⟩) (rs := [.tmp 4]) Tryz.func53 rfl (by decide) rfl rfl (by simp) ?_
  simp only [go_sem, Nat.reduceBEq, Nat.reduceLT, Nat.reduceAdd, Nat.reduceMul, Nat.reduceSub, Nat.reduceLeDiff, decide_true, ne_eq, Nat.reduceEqDiff, not_false_eq_true, Classical.not_not, Int.lt_irrefl, false_implies]
  refine DrawK.text mixed (by kernel_rfl) ?_
  simp only [go_sem, Nat.reduceBEq, Nat.reduceLT, Nat.reduceAdd, Nat.reduceMul, Nat.reduceSub, Nat.reduceLeDiff, decide_true, ne_eq, Nat.reduceEqDiff, not_false_eq_true, Classical.not_not, Int.lt_irrefl, false_implies]
  refine ⟨_, lib_Compare _ _, ?_⟩
  simp only [go_sem, Nat.reduceBEq, Nat.reduceLT, Nat.reduceAdd, Nat.reduceMul, Nat.reduceSub, Nat.reduceLeDiff, decide_true, ne_eq, Nat.reduceEqDiff, not_false_eq_true, Classical.not_not, Int.lt_irrefl, false_implies]
  refine ⟨_, lib_Compare _ _, ?_⟩
  simp only [go_sem, Nat.reduceBEq, Nat.reduceLT, Nat.reduceAdd, Nat.reduceMul, Nat.reduceSub, Nat.reduceLeDiff, decide_true, ne_eq, Nat.reduceEqDiff, not_false_eq_true, Classical.not_not, Int.lt_irrefl, false_implies]
  refine ⟨_, lib_Compare _ _, ?_⟩
  simp only [go_sem, Nat.reduceBEq, Nat.reduceLT, Nat.reduceAdd, Nat.reduceMul, Nat.reduceSub, Nat.reduceLeDiff, decide_true, ne_eq, Nat.reduceEqDiff, not_false_eq_true, Classical.not_not, Int.lt_irrefl, false_implies]
  refine ⟨_, lib_Or [cmpI e.fr f.fr, cmpI e.le f.le, cmpI e.to f.to] (by simp), ?_⟩
  simp only [go_sem, Nat.reduceBEq, Nat.reduceLT, Nat.reduceAdd, Nat.reduceMul, Nat.reduceSub, Nat.reduceLeDiff, decide_true, ne_eq, Nat.reduceEqDiff, not_false_eq_true, Classical.not_not, Int.lt_irrefl, false_implies]
  rfl
theorem impl_isState (s : Ts) (q : Int) : Pure Tryz.prog gl 65 [.agg (eS s), .int q] (.bool (decide (0 ≤ q ∧ q < s.st))) := by
  refine callWp_of (cf := ⟨13, [0, 1, 2, 4], [], [2, 9]⟩) (rs := [.tmp 4]) Tryz.func65 rfl (by decide) rfl rfl (by simp) ?_
  simp only [go_sem, Nat.reduceBEq, Nat.reduceLT, Nat.reduceAdd, Nat.reduceMul, Nat.reduceSub, Nat.reduceLeDiff, decide_true, ne_eq, Nat.reduceEqDiff, not_false_eq_true, Classical.not_not, Int.lt_irrefl, false_implies]
  refine ⟨fun h => ?_, fun h => ?_⟩ <;> simp [h]
theorem impl_SystemValid (s : Ts) (hn : s.ed.length ≤ 1048576) : Pure Tryz.prog gl 49 [.agg (eS s)] (.bool (sysOk s)) := by
  refine Pure.of (callWp_of (cf := ⟨68, [0, 1, 2, 3, 4, 18, 20, 21, 22, 23, 66], [4], [1, 5, 10, 15, 19, 45, 56]⟩) (rs := [.tmp 2]) Tryz.func49 rfl (by decide) rfl rfl (by simp) ?_)
  simp only [go_sem, Nat.reduceBEq, Nat.reduceLT, Nat.reduceAdd, Nat.reduceMul, Nat.reduceSub, Nat.reduceLeDiff, decide_true, ne_eq, Nat.reduceEqDiff, not_false_eq_true, Classical.not_not, Int.lt_irrefl, false_implies]
  refine (impl_isAlphabet s.al).call ?_
  simp only [go_sem, Nat.reduceBEq, Nat.reduceLT, Nat.reduceAdd, Nat.reduceMul, Nat.reduceSub, Nat.reduceLeDiff, decide_true, ne_eq, Nat.reduceEqDiff, not_false_eq_true, Classical.not_not, Int.lt_irrefl, false_implies]
  cases ha : isAlpha s.al
  · simp only [go_sem, Nat.reduceBEq, Nat.reduceLT, Nat.reduceAdd, Nat.reduceMul, Nat.reduceSub, Nat.reduceLeDiff, decide_true, ne_eq, Nat.reduceEqDiff, not_false_eq_true, Classical.not_not, Int.lt_irrefl, false_implies]
    simp only [sysOk, ha, Bool.false_and]; exact Sees.refl _
  have ha' := isAlpha_iff.1 ha
  simp only [go_sem, Nat.reduceBEq, Nat.reduceLT, Nat.reduceAdd, Nat.reduceMul, Nat.reduceSub, Nat.reduceLeDiff, decide_true, ne_eq, Nat.reduceEqDiff, not_false_eq_true, Classical.not_not, Int.lt_irrefl, false_implies]
  refine ⟨fun h1 => ?_, fun h1 => ⟨fun h2 => ?_, fun h2 => ?_⟩⟩
  · have : decide (1 ≤ s.st ∧ s.st ≤ 16) = false := by simp; omega
    simp only [sysOk, ha, this, Bool.false_and, Bool.and_false]; exact Sees.refl _
  · have : decide (1 ≤ s.st ∧ s.st ≤ 16) = false := by simp; omega
    simp only [sysOk, ha, this, Bool.false_and, Bool.and_false]; exact Sees.refl _
  · have hst : decide (1 ≤ s.st ∧ s.st ≤ 16) = true := by simp; omega
    refine LoopWp.byT (fun m ρ σ => ∃ i : Nat, get ρ 1 = .cptr (eS s) ∧ get ρ 20 = edges s.ed ∧ get ρ 21 = .int s.ed.length ∧ get ρ 22 = .int i ∧ i ≤ s.ed.length ∧ (List.range i).all (edAt s) = true ∧ σ = [] ∧ m = s.ed.length - i) s.ed.length ?_ ?_
    · exact ⟨_, Turn.refl _, 0, rfl, rfl, rfl, rfl, by omega, by simp, rfl, by omega⟩
    rintro m ρ σ ⟨i, g1, g20, g21, g22, hi, hall, rfl, rfl⟩
    by_cases hlt : i < s.ed.length
    · obtain ⟨e, he⟩ : ∃ e, s.ed[i]? = some e := ⟨_, List.getElem?_eq_getElem hlt⟩
      have hpre : (((i : Int) - 1).toNat) = i - 1 := by omega
      have hbad : ∀ {σ : Store}, edAt s i = false → Sees gl σ (.bool false) (.bool (sysOk s)) := fun h => by
        have : sysOk s = false := by simp only [sysOk, all_range_false hlt h, Bool.and_false]
        rw [this]; exact Sees.refl _
      simp only [go_sem, Nat.reduceBEq, Nat.reduceLT, Nat.reduceAdd, Nat.reduceMul, Nat.reduceSub, Nat.reduceLeDiff, decide_true, ne_eq, Nat.reduceEqDiff, not_false_eq_true, Classical.not_not, Int.lt_irrefl, false_implies, g1, g20, g21, g22, he]
      refine ⟨fun _ b => ?_, fun h => by omega⟩
      refine DrawK.text mixed (by kernel_rfl) ?_
      simp only [go_sem, Nat.reduceBEq, Nat.reduceLT, Nat.reduceAdd, Nat.reduceMul, Nat.reduceSub, Nat.reduceLeDiff, decide_true, ne_eq, Nat.reduceEqDiff, not_false_eq_true, Classical.not_not, Int.lt_irrefl, false_implies, g1, g20, g21, g22]
      have hEd := edOk_impl (al := s.al) (st := s.st) (e := e)
      have hbadE : ∀ {σ : Store}, edOk s.al s.st e = false → Sees gl σ (.bool false) (.bool (sysOk s)) := fun h => hbad (by simp [edAt, he, h])
      refine ⟨_, impl_isState s e.fr, ?_⟩
      cases hA : decide (0 ≤ e.fr ∧ e.fr < s.st)
      · simp only [go_sem, Nat.reduceBEq, Nat.reduceLT, Nat.reduceAdd, Nat.reduceMul, Nat.reduceSub, Nat.reduceLeDiff, decide_true, ne_eq, Nat.reduceEqDiff, not_false_eq_true, Classical.not_not, Int.lt_irrefl, false_implies, g1, g20, g21, g22]
        exact hbadE (by rw [hEd, hA]; rfl)
      simp only [go_sem, Nat.reduceBEq, Nat.reduceLT, Nat.reduceAdd, Nat.reduceMul, Nat.reduceSub, Nat.reduceLeDiff, decide_true, ne_eq, Nat.reduceEqDiff, not_false_eq_true, Classical.not_not, Int.lt_irrefl, false_implies, g1, g20, g21, g22]
      refine ⟨_, impl_isState s e.to, ?_⟩
      cases hB : decide (0 ≤ e.to ∧ e.to < s.st)
      · simp only [go_sem, Nat.reduceBEq, Nat.reduceLT, Nat.reduceAdd, Nat.reduceMul, Nat.reduceSub, Nat.reduceLeDiff, decide_true, ne_eq, Nat.reduceEqDiff, not_false_eq_true, Classical.not_not, Int.lt_irrefl, false_implies, g1, g20, g21, g22]
        exact hbadE (by rw [hEd, hA, hB]; rfl)
      simp only [go_sem, Nat.reduceBEq, Nat.reduceLT, Nat.reduceAdd, Nat.reduceMul, Nat.reduceSub, Nat.reduceLeDiff, decide_true, ne_eq, Nat.reduceEqDiff, not_false_eq_true, Classical.not_not, Int.lt_irrefl, false_implies, g1, g20, g21, g22]
      refine ⟨fun h6 => ?_, fun h6 => ?_⟩
      · exact hbadE (by rw [hEd, hA, hB, decide_eq_true h6]; rfl)
      refine ⟨_, impl_has s.al e.le (by omega) (by omega), ?_⟩
      cases hC : hasL s.al e.le
      · simp only [go_sem, Nat.reduceBEq, Nat.reduceLT, Nat.reduceAdd, Nat.reduceMul, Nat.reduceSub, Nat.reduceLeDiff, decide_true, ne_eq, Nat.reduceEqDiff, not_false_eq_true, Classical.not_not, Int.lt_irrefl, false_implies, g1, g20, g21, g22]
        exact hbadE (by rw [hEd, hC]; simp)
      have hok : edOk s.al s.st e = true := by rw [hEd, hA, hB, hC, decide_eq_false h6]; rfl
      simp only [go_sem, Nat.reduceBEq, Nat.reduceLT, Nat.reduceAdd, Nat.reduceMul, Nat.reduceSub, Nat.reduceLeDiff, decide_true, ne_eq, Nat.reduceEqDiff, not_false_eq_true, Classical.not_not, Int.lt_irrefl, false_implies, g1, g20, g21, g22]
      refine ⟨fun h3 => ?_, fun h3 => ?_⟩
      · obtain ⟨d, hd⟩ : ∃ d, s.ed[i - 1]? = some d := ⟨_, List.getElem?_eq_getElem (by omega)⟩
        simp only [go_sem, Nat.reduceBEq, Nat.reduceLT, Nat.reduceAdd, Nat.reduceMul, Nat.reduceSub, Nat.reduceLeDiff, decide_true, ne_eq, Nat.reduceEqDiff, not_false_eq_true, Classical.not_not, Int.lt_irrefl, false_implies, g1, g20, g21, g22, hpre, hd]
        refine ⟨⟨by omega, by omega⟩, by omega, _, impl_compareEdges d e, ?_⟩
        have hed : edAt s i = edLt d e := by
          have : decide (i = 0) = false := by simp; omega
          simp [edAt, he, hok, hd, this]
        have hcl := edCmp_neg d e
        simp only [go_sem, Nat.reduceBEq, Nat.reduceLT, Nat.reduceAdd, Nat.reduceMul, Nat.reduceSub, Nat.reduceLeDiff, decide_true, ne_eq, Nat.reduceEqDiff, not_false_eq_true, Classical.not_not, Int.lt_irrefl, false_implies, g1, g20, g21, g22]
        refine ⟨fun h => ?_, fun h => ?_⟩
        · exact hbad (by rw [hed, Bool.eq_false_iff]; intro hh; have := hcl.2 hh; omega)
        · refine ⟨⟨by omega, by omega⟩, _, Turn.sub (List.nil_sublist _), _, ?_, i + 1, rfl, rfl, rfl, rfl, by omega, ?_, rfl, rfl⟩
          · omega
          · rw [all_range_succ, hall, hed, hcl.1 (by omega)]; rfl
      · have : i = 0 := by omega
        subst this
        refine ⟨⟨by omega, by omega⟩, _, Turn.sub (List.nil_sublist _), _, ?_, 1, rfl, rfl, rfl, rfl, by omega, by simp [edAt, he, hok], rfl, rfl⟩
        omega
    · have : i = s.ed.length := by omega
      subst this
      simp only [go_sem, Nat.reduceBEq, Nat.reduceLT, Nat.reduceAdd, Nat.reduceMul, Nat.reduceSub, Nat.reduceLeDiff, decide_true, ne_eq, Nat.reduceEqDiff, not_false_eq_true, Classical.not_not, Int.lt_irrefl, false_implies, g1, g20, g21, g22]
      simp only [sysOk, ha, hst, hall, Bool.and_self]; exact Sees.refl _
theorem impl_areParts1 (s : Ts) (hn : s.ed.length ≤ 1048576) : Pure Tryz.prog gl 48 [.agg (eS s)] (.bool (!sysOk s)) := by
  refine callWp_of (cf := ⟨6, [0, 1, 2], [], [1]⟩) (rs := [.tmp 2]) Tryz.func48 rfl (by decide) rfl rfl (by simp) ?_
  simp only [go_sem, Nat.reduceBEq, Nat.reduceLT, Nat.reduceAdd, Nat.reduceMul, Nat.reduceSub, Nat.reduceLeDiff, decide_true, ne_eq, Nat.reduceEqDiff, not_false_eq_true, Classical.not_not, Int.lt_irrefl, false_implies]
  refine (impl_SystemValid s hn).call ?_
  simp only [go_sem, Nat.reduceBEq, Nat.reduceLT, Nat.reduceAdd, Nat.reduceMul, Nat.reduceSub, Nat.reduceLeDiff, decide_true, ne_eq, Nat.reduceEqDiff, not_false_eq_true, Classical.not_not, Int.lt_irrefl, false_implies]
theorem lib_IndexFunc (l : List Ts) (hl : l.length ≤ 1048576) (hn : ∀ s ∈ l, s.ed.length ≤ 1048576) : ∃ r : Int, (0 ≤ r ↔ l.all sysOk = false) ∧ Pure Tryz.prog gl 64 [systems l, .clos (.func 48) [] []] (.int r) := by
  have hex : ∃ r : Int, (0 ≤ r ↔ l.all sysOk = false) ∧ (∀ (i : Nat) s, l[i]? = some s → sysOk s = false → (l.take i).all sysOk = true → r = i) ∧ (l.all sysOk = true → r = -1) := by
    by_cases h : l.all sysOk = true
    · refine ⟨-1, by simp [h], fun i s hs hb _ => ?_, fun _ => rfl⟩
      rw [all_false hs hb] at h; cases h
    · have hx : ∃ i : Nat, ∃ s, l[i]? = some s ∧ sysOk s = false := by
        rw [Bool.not_eq_true, List.all_eq_false] at h
        obtain ⟨s, hs, hb⟩ := h
        obtain ⟨i, hi⟩ := List.getElem?_of_mem hs
        exact ⟨i, s, hi, by simpa using hb⟩
      have key : ∀ n, n ≤ l.length → (l.take n).all sysOk = true ∨ ∃ i < n, ∃ s, l[i]? = some s ∧ sysOk s = false ∧ (l.take i).all sysOk = true := by
        intro n
        induction n with
        | zero => intro _; exact .inl (by simp)
        | succ n ih =>
          intro hn
          rcases ih (by omega) with h1 | ⟨i, h1, h2⟩
          · obtain ⟨s, hs⟩ : ∃ s, l[n]? = some s := ⟨_, List.getElem?_eq_getElem (by omega)⟩
            cases hb : sysOk s with
            | true => exact .inl (by rw [all_take_succ hs, h1, hb]; rfl)
            | false => exact .inr ⟨n, by omega, s, hs, hb, h1⟩
          · exact .inr ⟨i, by omega, h2⟩
      rcases key l.length (Nat.le_refl _) with h1 | ⟨i, h1, s, hs, hb, hp⟩
      · rw [List.take_length] at h1; exact absurd h1 h
      · refine ⟨i, by simp; simpa using h, fun j t ht hbt hpt => ?_, fun h2 => absurd h2 h⟩
        rcases Nat.lt_trichotomy i j with h3 | h3 | h3
        · have : (l.take j)[i]? = some s := by rw [List.getElem?_take, if_pos h3]; exact hs
          rw [all_false this hb] at hpt; cases hpt
        · omega
        · have : (l.take i)[j]? = some t := by rw [List.getElem?_take, if_pos h3]; exact ht
          rw [all_false this hbt] at hp; cases hp
  obtain ⟨r, h1, h2, h3⟩ := hex
  refine ⟨r, h1, ?_⟩
  refine callWp_of (cf := ⟨19, [0, 1, 4, 5, 7, 8, 9, 16], [], []⟩) (rs := [.tmp 4]) Tryz.func64 rfl (by decide) rfl rfl (by simp) ?_
  simp only [go_sem, Nat.reduceBEq, Nat.reduceLT, Nat.reduceAdd, Nat.reduceMul, Nat.reduceSub, Nat.reduceLeDiff, decide_true, ne_eq, Nat.reduceEqDiff, not_false_eq_true, Classical.not_not, Int.lt_irrefl, false_implies]
  refine LoopWp.by (fun m ρ σ => ∃ i : Nat, get ρ 0 = systems l ∧ get ρ 1 = .clos (.func 48) [] [] ∧ get ρ 7 = .int l.length ∧ get ρ 8 = .int i ∧ i ≤ l.length ∧ (l.take i).all sysOk = true ∧ σ = [] ∧ m = l.length - i) l.length ?_ ?_
  · exact ⟨0, rfl, rfl, rfl, rfl, by omega, by simp, rfl, by omega⟩
  rintro m ρ σ ⟨i, g0, g1, g7, g8, hi, hall, rfl, rfl⟩
  by_cases hlt : i < l.length
  · obtain ⟨s, hs⟩ : ∃ s, l[i]? = some s := ⟨_, List.getElem?_eq_getElem hlt⟩
    simp only [go_sem, Nat.reduceBEq, Nat.reduceLT, Nat.reduceAdd, Nat.reduceMul, Nat.reduceSub, Nat.reduceLeDiff, decide_true, ne_eq, Nat.reduceEqDiff, not_false_eq_true, Classical.not_not, Int.lt_irrefl, false_implies, g0, g1, g7, g8, hs]
    refine ⟨fun _ => ?_, fun h => by omega⟩
    refine (impl_areParts1 s (hn s (List.mem_of_getElem? hs))).call ?_
    cases hb : sysOk s
    · simp only [go_sem, Nat.reduceBEq, Nat.reduceLT, Nat.reduceAdd, Nat.reduceMul, Nat.reduceSub, Nat.reduceLeDiff, decide_true, ne_eq, Nat.reduceEqDiff, not_false_eq_true, Classical.not_not, Int.lt_irrefl, false_implies, g0, g1, g7, g8]
      rw [h2 i s hs hb hall]
    · simp only [go_sem, Nat.reduceBEq, Nat.reduceLT, Nat.reduceAdd, Nat.reduceMul, Nat.reduceSub, Nat.reduceLeDiff, decide_true, ne_eq, Nat.reduceEqDiff, not_false_eq_true, Classical.not_not, Int.lt_irrefl, false_implies, g0, g1, g7, g8]
      exact ⟨⟨by omega, by omega⟩, _, by omega, i + 1, rfl, rfl, rfl, rfl, by omega, by rw [all_take_succ hs, hall, hb]; rfl, rfl, rfl⟩
  · have : i = l.length := by omega
    subst this
    rw [List.take_length] at hall
    simp only [go_sem, Nat.reduceBEq, Nat.reduceLT, Nat.reduceAdd, Nat.reduceMul, Nat.reduceSub, Nat.reduceLeDiff, decide_true, ne_eq, Nat.reduceEqDiff, not_false_eq_true, Classical.not_not, Int.lt_irrefl, false_implies, g0, g1, g7, g8]
    rw [h3 hall]
theorem lib_ContainsFunc (l : List Ts) (hl : l.length ≤ 1048576) (hn : ∀ s ∈ l, s.ed.length ≤ 1048576) : Pure Tryz.prog gl 47 [systems l, .clos (.func 48) [] []] (.bool (!l.all sysOk)) := by
  obtain ⟨r, h1, h2⟩ := lib_IndexFunc (gl := gl) l hl hn
  refine callWp_of (cf := ⟨9, [0, 1, 4], [], []⟩) (rs := [.tmp 4]) Tryz.func47 rfl (by decide) rfl rfl (by simp) ?_
  simp only [go_sem, Nat.reduceBEq, Nat.reduceLT, Nat.reduceAdd, Nat.reduceMul, Nat.reduceSub, Nat.reduceLeDiff, decide_true, ne_eq, Nat.reduceEqDiff, not_false_eq_true, Classical.not_not, Int.lt_irrefl, false_implies]
  refine h2.call ?_
  simp only [go_sem, Nat.reduceBEq, Nat.reduceLT, Nat.reduceAdd, Nat.reduceMul, Nat.reduceSub, Nat.reduceLeDiff, decide_true, ne_eq, Nat.reduceEqDiff, not_false_eq_true, Classical.not_not, Int.lt_irrefl, false_implies]
  cases h : l.all sysOk
  · simp [h1.2 h]
  · have : ¬ 0 ≤ r := fun h3 => by rw [h1.1 h3] at h; cases h
    simp [this]
theorem impl_areParts (l : List Ts) (hl : l.length ≤ 1048576) (hn : ∀ s ∈ l, s.ed.length ≤ 1048576) : Pure Tryz.prog gl 27 [systems l] (.bool (partsOk l)) := by
  refine callWp_of (cf := ⟨16, [0, 2], [], []⟩) (rs := [.tmp 2]) Tryz.func27 rfl (by decide) rfl rfl (by simp) ?_
  simp only [go_sem, Nat.reduceBEq, Nat.reduceLT, Nat.reduceAdd, Nat.reduceMul, Nat.reduceSub, Nat.reduceLeDiff, decide_true, ne_eq, Nat.reduceEqDiff, not_false_eq_true, Classical.not_not, Int.lt_irrefl, false_implies]
  refine ⟨fun h1 => ⟨fun h2 => ?_, fun h2 => ?_⟩, fun h1 => ?_⟩
  · refine (lib_ContainsFunc l hl hn).call ?_
    simp only [go_sem, Nat.reduceBEq, Nat.reduceLT, Nat.reduceAdd, Nat.reduceMul, Nat.reduceSub, Nat.reduceLeDiff, decide_true, ne_eq, Nat.reduceEqDiff, not_false_eq_true, Classical.not_not, Int.lt_irrefl, false_implies]
    have : decide (1 ≤ l.length ∧ l.length ≤ 3) = true := by simp; omega
    simp [partsOk, this]
  · have : decide (1 ≤ l.length ∧ l.length ≤ 3) = false := by simp; omega
    simp [partsOk, this]
  · have : decide (1 ≤ l.length ∧ l.length ≤ 3) = false := by simp; omega
    simp [partsOk, this]
end Go.Proofs
end
section
/- Contracts: the impl's automata, alphabets of parts, search by halves, an edge dropped. -/
namespace Go.Proofs
open Go.AX AG
variable {gl : Globs}
set_option maxRecDepth 10000
set_option linter.unusedSimpArgs false

theorem impl_AutomatonValid (a : Au) (h1 : a.nx.length ≤ 1048576) (h2 : ∀ r ∈ a.nx, r.length ≤ 1048576) : Pure Tryz.prog gl 28 [.agg (eA a)] (.bool (autOk a)) := by
  refine callWp_of (cf := ⟨65, [0, 1, 2, 3, 5, 7, 32, 38, 39, 40, 41, 47, 48, 49, 50, 51, 62], [], [1, 8, 13, 19, 25, 28, 33, 37, 58]⟩) (rs := [.tmp 2]) Tryz.func28 rfl (by decide) rfl rfl (by simp) ?_
  simp only [go_sem, Nat.reduceBEq, Nat.reduceLT, Nat.reduceAdd, Nat.reduceMul, Nat.reduceSub, Nat.reduceLeDiff, decide_true, ne_eq, Nat.reduceEqDiff, not_false_eq_true, Classical.not_not, Int.lt_irrefl, false_implies]
  refine (impl_isAlphabet a.al).call ?_
  cases ha : isAlpha a.al
  · simp only [go_sem, Nat.reduceBEq, Nat.reduceLT, Nat.reduceAdd, Nat.reduceMul, Nat.reduceSub, Nat.reduceLeDiff, decide_true, ne_eq, Nat.reduceEqDiff, not_false_eq_true, Classical.not_not, Int.lt_irrefl, false_implies]
    simp [autOk, ha]
  have ha' := isAlpha_iff.1 ha
  simp only [go_sem, Nat.reduceBEq, Nat.reduceLT, Nat.reduceAdd, Nat.reduceMul, Nat.reduceSub, Nat.reduceLeDiff, decide_true, ne_eq, Nat.reduceEqDiff, not_false_eq_true, Classical.not_not, Int.lt_irrefl, false_implies]
  refine ⟨fun h3 => ?_, fun h3 => ⟨fun h4 => ?_, fun h4 => ⟨fun h5 => ?_, fun h5 => ?_⟩⟩⟩
  · have : decide (1 ≤ a.nx.length ∧ a.nx.length ≤ 12) = false := by simp; omega
    simp [autOk, this]
  · have : decide (1 ≤ a.nx.length ∧ a.nx.length ≤ 12) = false := by simp; omega
    simp [autOk, this]
  · have : decide (a.ac.length = a.nx.length) = false := by simp; omega
    simp [autOk, this]
  · have e1 : decide (1 ≤ a.nx.length ∧ a.nx.length ≤ 12) = true := by simp; omega
    have e2 : decide (a.ac.length = a.nx.length) = true := by simp; omega
    refine (impl_lettersOf a.al (by omega)).call ?_
    simp only [go_sem, Nat.reduceBEq, Nat.reduceLT, Nat.reduceAdd, Nat.reduceMul, Nat.reduceSub, Nat.reduceLeDiff, decide_true, ne_eq, Nat.reduceEqDiff, not_false_eq_true, Classical.not_not, Int.lt_irrefl, false_implies]
    refine LoopWp.by (fun m ρ σ => ∃ i : Nat, get ρ 1 = .cptr (eA a) ∧ get ρ 3 = .int (letters a.al).length ∧ get ρ 38 = intss a.nx ∧ get ρ 39 = .int a.nx.length ∧ get ρ 40 = .int i ∧ i ≤ a.nx.length ∧ (a.nx.take i).all (rowOk (letters a.al).length a.nx.length) = true ∧ σ = [] ∧ m = a.nx.length - i) a.nx.length ?_ ?_
    · exact ⟨0, rfl, rfl, rfl, rfl, rfl, by omega, by simp, rfl, by omega⟩
    rintro m ρ σ ⟨i, g1, g3, g38, g39, g40, hi, hall, rfl, rfl⟩
    by_cases hlt : i < a.nx.length
    · obtain ⟨r, hr⟩ : ∃ r, a.nx[i]? = some r := ⟨_, List.getElem?_eq_getElem hlt⟩
      have hr2 := h2 r (List.mem_of_getElem? hr)
      have hbad : rowOk (letters a.al).length a.nx.length r = false → autOk a = false := fun h => by simp only [autOk, all_false hr h, Bool.and_false]
      simp only [go_sem, Nat.reduceBEq, Nat.reduceLT, Nat.reduceAdd, Nat.reduceMul, Nat.reduceSub, Nat.reduceLeDiff, decide_true, ne_eq, Nat.reduceEqDiff, not_false_eq_true, Classical.not_not, Int.lt_irrefl, false_implies, g1, g3, g38, g39, g40, hr]
      refine ⟨fun _ => ⟨fun h => ?_, fun h => ?_⟩, fun h => by omega⟩
      · rw [hbad]
        have : decide (r.length = (letters a.al).length) = false := by simp; omega
        simp [rowOk, this]
      · have hk : decide (r.length = (letters a.al).length) = true := by simp; omega
        refine LoopWp.by (fun m ρ σ => ∃ j : Nat, get ρ 1 = .cptr (eA a) ∧ get ρ 3 = .int (letters a.al).length ∧ get ρ 38 = intss a.nx ∧ get ρ 39 = .int a.nx.length ∧ get ρ 40 = .int i ∧ get ρ 48 = ints r ∧ get ρ 49 = .int r.length ∧ get ρ 50 = .int j ∧ j ≤ r.length ∧ (r.take j).all (inB a.nx.length) = true ∧ σ = [] ∧ m = r.length - j) r.length ?_ ?_
        · exact ⟨0, rfl, rfl, rfl, rfl, rfl, rfl, rfl, rfl, by omega, by simp, rfl, by omega⟩
        rintro m ρ σ ⟨j, g1, g3, g38, g39, g40, g48, g49, g50, hj, hallj, rfl, rfl⟩
        by_cases hlt2 : j < r.length
        · obtain ⟨x, hx⟩ : ∃ x, r[j]? = some x := ⟨_, List.getElem?_eq_getElem hlt2⟩
          have hbad2 : inB a.nx.length x = false → autOk a = false := fun h => hbad (by simp only [rowOk, all_false hx h, Bool.and_false])
          simp only [go_sem, Nat.reduceBEq, Nat.reduceLT, Nat.reduceAdd, Nat.reduceMul, Nat.reduceSub, Nat.reduceLeDiff, decide_true, ne_eq, Nat.reduceEqDiff, not_false_eq_true, Classical.not_not, Int.lt_irrefl, false_implies, g1, g3, g38, g39, g40, g48, g49, g50, hx]
          refine ⟨fun _ => ⟨fun h => ?_, fun h => ⟨fun h' => ?_, fun h' => ?_⟩⟩, fun h => by omega⟩
          · rw [hbad2]; simp [inB]; omega
          · rw [hbad2]; simp [inB]; omega
          · exact ⟨⟨by omega, by omega⟩, _, by omega, j + 1, rfl, rfl, rfl, rfl, rfl, rfl, rfl, rfl, by omega, by rw [all_take_succ hx, hallj]; simp [inB]; omega, rfl, rfl⟩
        · have : j = r.length := by omega
          subst this
          rw [List.take_length] at hallj
          simp only [go_sem, Nat.reduceBEq, Nat.reduceLT, Nat.reduceAdd, Nat.reduceMul, Nat.reduceSub, Nat.reduceLeDiff, decide_true, ne_eq, Nat.reduceEqDiff, not_false_eq_true, Classical.not_not, Int.lt_irrefl, false_implies, g1, g3, g38, g39, g40, g48, g49, g50]
          exact ⟨⟨by omega, by omega⟩, _, by omega, i + 1, rfl, rfl, rfl, rfl, rfl, by omega, by rw [all_take_succ hr, hall]; simp only [rowOk, hk, hallj, Bool.and_self], rfl, rfl⟩
    · have : i = a.nx.length := by omega
      subst this
      rw [List.take_length] at hall
      simp only [go_sem, Nat.reduceBEq, Nat.reduceLT, Nat.reduceAdd, Nat.reduceMul, Nat.reduceSub, Nat.reduceLeDiff, decide_true, ne_eq, Nat.reduceEqDiff, not_false_eq_true, Classical.not_not, Int.lt_irrefl, false_implies, g1, g3, g38, g39, g40]
      simp only [autOk, ha, e1, e2, hall, Bool.and_self]
theorem impl_PartsAlphabet (l : List Ts) (hl : l.length ≤ 1048576) (hn : ∀ s ∈ l, s.ed.length ≤ 1048576) : Pure Tryz.prog gl 80 [systems l] (.int (partsAl l)) := by
  refine Pure.of (callWp_of (cf := ⟨21, [0, 2, 3, 5, 8, 9, 10, 11, 12], [5], []⟩) (rs := [.tmp 2]) Tryz.func80 rfl (by decide) rfl rfl (by simp) ?_)
  simp only [go_sem, Nat.reduceBEq, Nat.reduceLT, Nat.reduceAdd, Nat.reduceMul, Nat.reduceSub, Nat.reduceLeDiff, decide_true, ne_eq, Nat.reduceEqDiff, not_false_eq_true, Classical.not_not, Int.lt_irrefl, false_implies]
  refine (impl_areParts l hl hn).call ?_
  cases hok : partsOk l
  · simp only [go_sem, Nat.reduceBEq, Nat.reduceLT, Nat.reduceAdd, Nat.reduceMul, Nat.reduceSub, Nat.reduceLeDiff, decide_true, ne_eq, Nat.reduceEqDiff, not_false_eq_true, Classical.not_not, Int.lt_irrefl, false_implies]
    simp only [partsAl, hok, cond_false]; exact Sees.refl _
  have hlen := partsOk_len hok
  have hall : ∀ i, (l.take i).all sysOk = true := fun i => by
    rw [List.all_eq_true]; exact fun s hs => partsOk_all hok s (List.mem_of_mem_take hs)
  simp only [go_sem, Nat.reduceBEq, Nat.reduceLT, Nat.reduceAdd, Nat.reduceMul, Nat.reduceSub, Nat.reduceLeDiff, decide_true, ne_eq, Nat.reduceEqDiff, not_false_eq_true, Classical.not_not, Int.lt_irrefl, false_implies]
  refine LoopWp.byT (fun m ρ σ => ∃ i : Nat, get ρ 3 = .int (alOf (l.take i)) ∧ get ρ 9 = systems l ∧ get ρ 10 = .int l.length ∧ get ρ 11 = .int i ∧ i ≤ l.length ∧ σ = [] ∧ m = l.length - i) l.length ?_ ?_
  · exact ⟨_, Turn.refl _, 0, rfl, rfl, rfl, rfl, by omega, rfl, by omega⟩
  rintro m ρ σ ⟨i, g3, g9, g10, g11, hi, rfl, rfl⟩
  by_cases hlt : i < l.length
  · obtain ⟨s, hs⟩ : ∃ s, l[i]? = some s := ⟨_, List.getElem?_eq_getElem hlt⟩
    have h3 := alOf_le (hall i)
    have h4 := sysOk_al (partsOk_all hok s (List.mem_of_getElem? hs))
    simp only [go_sem, Nat.reduceBEq, Nat.reduceLT, Nat.reduceAdd, Nat.reduceMul, Nat.reduceSub, Nat.reduceLeDiff, decide_true, ne_eq, Nat.reduceEqDiff, not_false_eq_true, Classical.not_not, Int.lt_irrefl, false_implies, g3, g9, g10, g11, hs]
    refine ⟨fun _ b => ⟨⟨by omega, by omega, by omega, by omega⟩, ⟨by omega, by omega⟩, _, Turn.sub (List.nil_sublist _), _, ?_, i + 1, by rw [alOf_take hs]; rfl, rfl, rfl, rfl, by omega, rfl, rfl⟩, fun h => by omega⟩
    omega
  · have : i = l.length := by omega
    subst this
    rw [List.take_length] at g3
    simp only [go_sem, Nat.reduceBEq, Nat.reduceLT, Nat.reduceAdd, Nat.reduceMul, Nat.reduceSub, Nat.reduceLeDiff, decide_true, ne_eq, Nat.reduceEqDiff, not_false_eq_true, Classical.not_not, Int.lt_irrefl, false_implies, g3, g9, g10, g11]
    simp only [partsAl, hok, cond_true]; exact Sees.refl _
theorem lib_bsearch (l : List Ed) (e : Ed) (hl : l.length ≤ 1048576) : Pure Tryz.prog gl 52 [edges l, .agg (eE e), .clos (.func 53) [] []] (.tup [.int (bsAt l e), .bool (bsOk l e)]) := by
  refine callWp_of (cf := ⟨49, [0, 1, 2, 4, 6, 7, 8, 9, 10, 11, 17, 31], [], [4]⟩) (rs := [.tmp 6, .tmp 7]) Tryz.func52 rfl (by decide) rfl rfl (by simp) ?_
  simp only [go_sem, Nat.reduceBEq, Nat.reduceLT, Nat.reduceAdd, Nat.reduceMul, Nat.reduceSub, Nat.reduceLeDiff, decide_true, ne_eq, Nat.reduceEqDiff, not_false_eq_true, Classical.not_not, Int.lt_irrefl, false_implies]
  refine LoopWp.by (fun m ρ σ => ∃ (i j : Nat), get ρ 0 = edges l ∧ get ρ 2 = .clos (.func 53) [] [] ∧ get ρ 4 = .cptr (eE e) ∧ get ρ 8 = .int l.length ∧ get ρ 9 = .int i ∧ get ρ 10 = .int j ∧ i ≤ j ∧ j ≤ l.length ∧ σ = [] ∧
    (∃ f, j - i ≤ f ∧ bsLo l e f i j = bsAt l e) ∧ m = j - i) l.length ?_ ?_
  · exact ⟨0, l.length, rfl, rfl, rfl, rfl, rfl, rfl, by omega, by omega, rfl, ⟨l.length, by omega, rfl⟩, by omega⟩
  rintro m ρ σ ⟨i, j, g0, g2, g4, g8, g9, g10, hij, hj, rfl, ⟨f, hf, hbs⟩, rfl⟩
  by_cases hlt : i < j
  · obtain ⟨f, rfl⟩ : ∃ f', f = f' + 1 := ⟨f - 1, by omega⟩
    obtain ⟨x, hx⟩ : ∃ x, l[(i + j) / 2]? = some x := ⟨_, List.getElem?_eq_getElem (by omega)⟩
    unfold bsLo at hbs
    rw [if_pos hlt, hx] at hbs
    simp only at hbs
    have e1 : Go.IntKind.u64.wrap ((i : Int) + j) = (i : Int) + j := Go.IntWalk.u64_in _ (by omega)
    have e2 : ((i : Int) + j) / 2 ^ Int.toNat 1 = (((i + j) / 2 : Nat) : Int) := by show ((i : Int) + j) / 2 = _; omega
    simp only [go_sem, Nat.reduceBEq, Nat.reduceLT, Nat.reduceAdd, Nat.reduceMul, Nat.reduceSub, Nat.reduceLeDiff, decide_true, ne_eq, Nat.reduceEqDiff, not_false_eq_true, Classical.not_not, Int.lt_irrefl, false_implies, g0, g2, g4, g8, g9, g10, e1, e2]
    refine ⟨fun _ => ⟨⟨by omega, by omega⟩, ⟨by omega, by omega⟩, ⟨by omega, by omega⟩, ?_⟩, fun h => by omega⟩
    refine DrawK.text mixed (by kernel_rfl) ?_
    simp only [go_sem, Nat.reduceBEq, Nat.reduceLT, Nat.reduceAdd, Nat.reduceMul, Nat.reduceSub, Nat.reduceLeDiff, decide_true, ne_eq, Nat.reduceEqDiff, not_false_eq_true, Classical.not_not, Int.lt_irrefl, false_implies, g0, g2, g4, g8, g9, g10, hx]
    refine ⟨_, impl_compareEdges x e, ?_⟩
    simp only [go_sem, Nat.reduceBEq, Nat.reduceLT, Nat.reduceAdd, Nat.reduceMul, Nat.reduceSub, Nat.reduceLeDiff, decide_true, ne_eq, Nat.reduceEqDiff, not_false_eq_true, Classical.not_not, Int.lt_irrefl, false_implies, g0, g2, g4, g8, g9, g10]
    refine ⟨fun h => ?_, fun h => ?_⟩
    · rw [if_pos h] at hbs
      exact ⟨⟨by omega, by omega⟩, _, by omega, (i + j) / 2 + 1, j, rfl, rfl, rfl, rfl, rfl, rfl, by omega, by omega, rfl, ⟨f, by omega, hbs⟩, rfl⟩
    · rw [if_neg h] at hbs
      exact ⟨_, by omega, i, (i + j) / 2, rfl, rfl, rfl, rfl, rfl, rfl, by omega, by omega, rfl, ⟨f, by omega, hbs⟩, rfl⟩
  · have : i = j := by omega
    subst this
    have hat : bsAt l e = i := by
      rw [← hbs]
      cases f with
      | zero => rfl
      | succ f => unfold bsLo; rw [if_neg (by omega)]
    simp only [go_sem, Nat.reduceBEq, Nat.reduceLT, Nat.reduceAdd, Nat.reduceMul, Nat.reduceSub, Nat.reduceLeDiff, decide_true, ne_eq, Nat.reduceEqDiff, not_false_eq_true, Classical.not_not, Int.lt_irrefl, false_implies, g0, g2, g4, g8, g9, g10]
    refine DrawK.text mixed (by kernel_rfl) ?_
    by_cases hlt2 : i < l.length
    · obtain ⟨x, hx⟩ : ∃ x, l[i]? = some x := ⟨_, List.getElem?_eq_getElem hlt2⟩
      simp only [go_sem, Nat.reduceBEq, Nat.reduceLT, Nat.reduceAdd, Nat.reduceMul, Nat.reduceSub, Nat.reduceLeDiff, decide_true, ne_eq, Nat.reduceEqDiff, not_false_eq_true, Classical.not_not, Int.lt_irrefl, false_implies, g0, g2, g4, g8, g9, g10, hx]
      refine ⟨fun _ => ⟨_, impl_compareEdges x e, ?_⟩, fun h => by omega⟩
      simp only [go_sem, Nat.reduceBEq, Nat.reduceLT, Nat.reduceAdd, Nat.reduceMul, Nat.reduceSub, Nat.reduceLeDiff, decide_true, ne_eq, Nat.reduceEqDiff, not_false_eq_true, Classical.not_not, Int.lt_irrefl, false_implies]
      simp [bsOk, hat, hx]
    · simp only [go_sem, Nat.reduceBEq, Nat.reduceLT, Nat.reduceAdd, Nat.reduceMul, Nat.reduceSub, Nat.reduceLeDiff, decide_true, ne_eq, Nat.reduceEqDiff, not_false_eq_true, Classical.not_not, Int.lt_irrefl, false_implies, g0, g2, g4, g8, g9, g10]
      refine ⟨fun h => by omega, fun _ => ?_⟩
      have hx : l[i]? = none := List.getElem?_eq_none (by omega)
      simp [bsOk, hat, hx]
end Go.Proofs
end
section
/- Contracts: the impl's copies; an edge dropped. -/
namespace Go.Proofs
open Go.AX AG
variable {gl : Globs}
set_option maxRecDepth 10000
set_option linter.unusedSimpArgs false

theorem lib_CloneS (l : List Ts) (h0 : l ≠ []) (hl : l.length ≤ 1048576) : CallWp Tryz.prog gl 29 [systems l] [] fun r σ => ∃ b c rest, r = .msl b 0 l.length c ∧ σ = [(b, .own ((l.map eS).flatten ++ rest))] ∧ l.length ≤ c ∧ c * 3 ≤ l.length * 3 + rest.length := by
  refine callWp_of (cf := ⟨8, [0, 2, 4], [7], []⟩) (rs := [.tmp 2]) Tryz.func29 rfl (by decide) rfl rfl (by simp) ?_
  simp only [go_sem, Nat.reduceBEq, Nat.reduceLT, Nat.reduceAdd, Nat.reduceMul, Nat.reduceSub, Nat.reduceLeDiff, decide_true, ne_eq, Nat.reduceEqDiff, not_false_eq_true, Classical.not_not, Int.lt_irrefl, false_implies]
  refine ⟨fun h => absurd (List.map_eq_nil_iff.1 h) h0, ?_⟩
  refine append_own (.inl rfl) rowsIn_list (by decide) (by simpa using h0) ⟨by simp; omega, by simp⟩ fun b c rest hf hc hcl => ?_
  simp only [go_sem, Nat.reduceBEq, Nat.reduceLT, Nat.reduceAdd, Nat.reduceMul, Nat.reduceSub, Nat.reduceLeDiff, decide_true, ne_eq, Nat.reduceEqDiff, not_false_eq_true, Classical.not_not, Int.lt_irrefl, false_implies]
  exact ⟨b, c, rest, rfl, rfl, by simpa using hc, by simpa using hcl⟩
theorem lib_CloneE (l : List Ed) (h0 : l ≠ []) (hl : l.length ≤ 1048576) : CallWp Tryz.prog gl 55 [edges l] [] fun r σ => ∃ b c rest, r = .msl b 0 l.length c ∧ σ = [(b, .own ((l.map eE).flatten ++ rest))] ∧ l.length ≤ c ∧ c * 3 ≤ l.length * 3 + rest.length := by
  refine callWp_of (cf := ⟨8, [0, 2, 4], [7], []⟩) (rs := [.tmp 2]) Tryz.func55 rfl (by decide) rfl rfl (by simp) ?_
  simp only [go_sem, Nat.reduceBEq, Nat.reduceLT, Nat.reduceAdd, Nat.reduceMul, Nat.reduceSub, Nat.reduceLeDiff, decide_true, ne_eq, Nat.reduceEqDiff, not_false_eq_true, Classical.not_not, Int.lt_irrefl, false_implies]
  refine ⟨fun h => absurd (List.map_eq_nil_iff.1 h) h0, ?_⟩
  refine append_own (.inl rfl) rowsIn_list (by decide) (by simpa using h0) ⟨by simp; omega, by simp⟩ fun b c rest hf hc hcl => ?_
  simp only [go_sem, Nat.reduceBEq, Nat.reduceLT, Nat.reduceAdd, Nat.reduceMul, Nat.reduceSub, Nat.reduceLeDiff, decide_true, ne_eq, Nat.reduceEqDiff, not_false_eq_true, Classical.not_not, Int.lt_irrefl, false_implies]
  exact ⟨b, c, rest, rfl, rfl, by simpa using hc, by simpa using hcl⟩
theorem lib_Delete (l : List Ed) (i : Nat) (hi : i < l.length) (hl : l.length ≤ 1048576) (b c : Nat) (rest : List AV) (hc : l.length ≤ c) (hcl : c * 3 ≤ l.length * 3 + rest.length) :
    CallWp Tryz.prog gl 54 [.msl b 0 l.length c, .int i, .int (i + 1)] [(b, .own ((l.map eE).flatten ++ rest))] fun r σ =>
      ∃ b' c' rest', r = .msl b' 0 (l.take i ++ l.drop (i + 1)).length c' ∧ σ = [(b', .own (((l.take i ++ l.drop (i + 1)).map eE).flatten ++ rest'))] ∧ (l.take i ++ l.drop (i + 1)).length ≤ c' := by
  refine callWp_of (cf := ⟨33, [0, 1, 2, 6, 7, 16], [26], []⟩) (rs := [.tmp 6]) Tryz.func54 rfl (by decide) rfl rfl (by simp) ?_
  have hfl : (l.map eE).flatten.length = l.length * 3 := flat_len (sz := 3) (fun _ => rfl) l
  simp only [go_sem, Nat.reduceBEq, Nat.reduceLT, Nat.reduceAdd, Nat.reduceMul, Nat.reduceSub, Nat.reduceLeDiff, decide_true, ne_eq, Nat.reduceEqDiff, not_false_eq_true, Classical.not_not, Int.lt_irrefl, false_implies, Int.toNat_zero]
  refine ⟨⟨by omega, by omega, by omega⟩, fun h => by omega, fun _ => ?_⟩
  refine DrawK.text mixed (by kernel_rfl) ?_
  simp only [go_sem, Nat.reduceBEq, Nat.reduceLT, Nat.reduceAdd, Nat.reduceMul, Nat.reduceSub, Nat.reduceLeDiff, decide_true, ne_eq, Nat.reduceEqDiff, not_false_eq_true, Classical.not_not, Int.lt_irrefl, false_implies, Int.toNat_zero]
  refine ⟨⟨by omega, by omega, by omega⟩, ⟨by omega, by omega, by omega, by omega⟩, ?_⟩
  have hlen : (l.take i ++ l.drop (i + 1)).length = l.length - 1 := by simp; omega
  have e1 : ((i : Int) - 0).toNat = i := by omega
  have e2 : ((c : Int) - 0).toNat = c := by omega
  have e3 : ((l.length : Int) - ((i : Int) + 1)).toNat = l.length - (i + 1) := by omega
  have hro : rowsIn [(b, AObj.own ((l.map eE).flatten ++ rest))] 3 (AV.msl b (if (c : Int) = (i : Int) + 1 then 0 else ((i : Int) + 1).toNat * 3) ((l.length : Int) - ((i : Int) + 1)).toNat ((c : Int) - ((i : Int) + 1)).toNat) = some ((l.drop (i + 1)).map eE) := by
    simp only [rowsIn, look_hd, e3]
    have hx : rowsOf (l.length - (i + 1)) 3 (((l.map eE).flatten ++ rest).drop (if (c : Int) = (i : Int) + 1 then 0 else ((i : Int) + 1).toNat * 3)) = (l.drop (i + 1)).map eE := by
      by_cases h : (c : Int) = (i : Int) + 1
      · have : l.length = i + 1 := by omega
        rw [this, Nat.sub_self, ← this, List.drop_length]; rfl
      · rw [if_neg h]
        have e4 : ((i : Int) + 1).toNat = i + 1 := by omega
        rw [e4, List.drop_append_of_le_length (by rw [hfl]; omega), flat_drop (sz := 3) (fun _ => rfl) l (i + 1) (by omega)]
        have := rowsOf_app (sz := 3) rest (Rows.map (f := eE) (fun _ => rfl) (l.drop (i + 1)))
        rw [List.length_map, List.length_drop] at this
        exact this
    have hle : decide ((if (c : Int) = (i : Int) + 1 then 0 else ((i : Int) + 1).toNat * 3) + (l.length - (i + 1)) * 3 ≤ ((l.map eE).flatten ++ rest).length) = true := by
      rw [decide_eq_true_eq, List.length_append, hfl]
      split <;> omega
    rw [hle, hx]; rfl
  rw [e1, e2]
  unfold appendWp
  rw [hro]
  simp only [look_hd, BEq.rfl, cond_true, del, List.length_map, List.length_drop]
  refine ⟨⟨by omega, by omega, by rw [List.length_append, hfl]; omega, by omega, by omega⟩, fun b' c' rest2 hf h1 h2 h3 => ?_⟩
  have htk : ((l.map eE).flatten ++ rest).take (i * 3) = ((l.take i).map eE).flatten := by
    rw [List.take_append_of_le_length (by rw [hfl]; omega), flat_take (sz := 3) (fun _ => rfl) l i (by omega)]
  have hcs : ((l.take i).map eE).flatten ++ ((l.drop (i + 1)).map eE).flatten = ((l.take i ++ l.drop (i + 1)).map eE).flatten := by rw [List.map_append, List.flatten_append]
  rw [htk, hcs]
  have hfl2 : ((l.take i ++ l.drop (i + 1)).map eE).flatten.length = (l.length - 1) * 3 := by rw [flat_len (sz := 3) (fun _ => rfl), hlen]
  have en : i + (l.length - (i + 1)) = l.length - 1 := by omega
  rw [en]
  simp only [go_sem, Nat.reduceBEq, Nat.reduceLT, Nat.reduceAdd, Nat.reduceMul, Nat.reduceSub, Nat.reduceLeDiff, decide_true, ne_eq, Nat.reduceEqDiff, not_false_eq_true, Classical.not_not, Int.lt_irrefl, false_implies, Int.toNat_zero]
  have hne : ¬ (c' : Int) = ((l.length - 1 : Nat) : Int) := by omega
  have e5 : ((l.length : Int) - ((l.length - 1 : Nat) : Int)).toNat = 1 := by omega
  rw [if_neg hne, e5, splice_at hfl2.symm, List.length_append, hfl2]
  exact ⟨⟨by omega, by omega, Int.le_refl _⟩, by omega, b', c', _, by rw [hlen], rfl, by omega⟩
theorem impl_DropEdge (s : Ts) (k : Nat) (e : Ed) (he : s.ed[k]? = some e) (hs : sysOk s = true) (hl : s.ed.length ≤ 1048576) : Pure Tryz.prog gl 30 [.agg (eS s), .agg (eE e)] (.tup [.agg (eS (dropAt s k)), .bool true]) := by
  have hk : k < s.ed.length := (List.getElem?_eq_some_iff.1 he).1
  obtain ⟨hat, hok⟩ := bs_found (sysOk_sorted hs) he
  refine Pure.own (callWp_of (cf := ⟨32, [0, 1, 2, 3, 4, 5, 6, 7, 21], [2], [3]⟩) (rs := [.cell 4 51, .tmp 5]) Tryz.func30 rfl (by decide) rfl rfl (by simp) ?_)
  simp only [go_sem, Nat.reduceBEq, Nat.reduceLT, Nat.reduceAdd, Nat.reduceMul, Nat.reduceSub, Nat.reduceLeDiff, decide_true, ne_eq, Nat.reduceEqDiff, not_false_eq_true, Classical.not_not, Int.lt_irrefl, false_implies]
  intro b1 b2 ⟨hn2, hn1⟩
  have hb1 : (b1 == b2) = false := by simpa using hn1
  have hb2 : (b2 == b1) = false := by simpa using hn2
  simp only [go_sem, Nat.reduceBEq, Nat.reduceLT, Nat.reduceAdd, Nat.reduceMul, Nat.reduceSub, Nat.reduceLeDiff, decide_true, ne_eq, Nat.reduceEqDiff, not_false_eq_true, Classical.not_not, Int.lt_irrefl, false_implies, hb1, hb2]
  refine (lib_bsearch s.ed e hl).call ?_
  rw [hat, hok]
  simp only [go_sem, Nat.reduceBEq, Nat.reduceLT, Nat.reduceAdd, Nat.reduceMul, Nat.reduceSub, Nat.reduceLeDiff, decide_true, ne_eq, Nat.reduceEqDiff, not_false_eq_true, Classical.not_not, Int.lt_irrefl, false_implies, hb1, hb2]
  refine (impl_SystemValid s hl).call ?_
  rw [hs]
  simp only [go_sem, Nat.reduceBEq, Nat.reduceLT, Nat.reduceAdd, Nat.reduceMul, Nat.reduceSub, Nat.reduceLeDiff, decide_true, ne_eq, Nat.reduceEqDiff, not_false_eq_true, Classical.not_not, Int.lt_irrefl, false_implies, hb1, hb2]
  have hne : s.ed ≠ [] := fun h => by rw [h] at hk; simp at hk
  refine CallWp.frame0 ((lib_CloneE s.ed hne hl).mono ?_)
  rintro r σ ⟨b3, c3, rest3, rfl, rfl, hc3, hcl3⟩ hd3
  simp only [go_sem, Nat.reduceBEq, Nat.reduceLT, Nat.reduceAdd, Nat.reduceMul, Nat.reduceSub, Nat.reduceLeDiff, decide_true, ne_eq, Nat.reduceEqDiff, not_false_eq_true, Classical.not_not, Int.lt_irrefl, false_implies, hb1, hb2]
  refine ⟨⟨by omega, by omega⟩, ?_⟩
  refine CallWp.frameD (σ1 := [(b3, .own ((s.ed.map eE).flatten ++ rest3))]) ((lib_Delete s.ed k hk hl b3 c3 rest3 hc3 hcl3).mono ?_)
  rintro r σ ⟨b4, c4, rest4, rfl, rfl, hc4⟩ hd4
  obtain ⟨⟨n42, n24⟩, ⟨n41, n14⟩, _⟩ := hd4.head
  have hb3 := beq_false_of_ne n24
  have hb4 := beq_false_of_ne n14
  simp only [go_sem, Nat.reduceBEq, Nat.reduceLT, Nat.reduceAdd, Nat.reduceMul, Nat.reduceSub, Nat.reduceLeDiff, decide_true, ne_eq, Nat.reduceEqDiff, not_false_eq_true, Classical.not_not, Int.lt_irrefl, false_implies, hb1, hb2, hb3, hb4]
  refine Gh.cut (τ := [(b4, .own (((dropAt s k).ed.map eE).flatten ++ rest4))]) (by simp [dropAt]) ?_
  have h1 := Gh.rows (gl := gl) (b := b4) (c := c4) (rest := rest4) (rows_eE (dropAt s k).ed) (by simpa [dropAt] using hc4)
  rw [List.length_map] at h1
  have h2 : Gh gl [(b4, .own (((dropAt s k).ed.map eE).flatten ++ rest4))] (.agg [.int s.al, .int s.st, .msl b4 0 (dropAt s k).ed.length c4]) [] (.agg (eS (dropAt s k))) :=
    GhAll.agg (Gh.cons (Gh.of (Sees.refl _)) (Gh.cons (Gh.of (Sees.refl _)) h1.all))
  have h3 : GhAll gl [(b4, .own (((dropAt s k).ed.map eE).flatten ++ rest4))] [.agg [.int s.al, .int s.st, .msl b4 0 (dropAt s k).ed.length c4], .bool true] [.agg (eS (dropAt s k)), .bool true] :=
    Gh.cons h2 (Gh.cons (Gh.of (Sees.refl _)) GhAll.nil)
  exact GhAll.tup h3
end Go.Proofs
end
section
/- Contracts: the impl's sets of small numbers, moves of systems. -/
namespace Go.Proofs
open Go.AX AG
variable {gl : Globs}
set_option maxRecDepth 10000
set_option linter.unusedSimpArgs false

theorem u64w (n : Int) : Go.IntKind.u64.wrap n = n % 18446744073709551616 := by simp [Go.IntKind.wrap, Go.IntKind.bits, Go.IntKind.signed]
def deBruijn : List AV := Go.Lib.deBruijn64tab.map fun n : Nat => AV.byte n
theorem lib_tz64 (hg : lookG gl 1 = .cptr deBruijn) (x : Nat) (h0 : x ≠ 0) (hx : x < 18446744073709551616) : Pure Tryz.prog gl 101 [.raw (.int .u64 x)] (.int (Go.Lib.ctz 64 x)) := by
  obtain ⟨hlow, hk⟩ := Go.Lib.lowest_bit 64 x h0 (by simpa using hx)
  obtain ⟨hi, htab⟩ := Go.Lib.deBruijn64_at _ hk
  have e1 : Go.IntKind.u64.wrap (-(x : Int)) = ((18446744073709551616 - x : Nat) : Int) := by rw [u64w]; omega
  have e2 : Go.IntKind.u64.wrap (((2 ^ Go.Lib.ctz 64 x : Nat) : Int) * 285870213051353865) / 2 ^ Int.toNat 58 = ((2 ^ Go.Lib.ctz 64 x * 285870213051353865 % 18446744073709551616 / 288230376151711744 : Nat) : Int) := by
    rw [u64w]
    show _ / 288230376151711744 = _
    generalize 2 ^ Go.Lib.ctz 64 x = p
    omega
  have hlow2 : x &&& (18446744073709551616 - x) = 2 ^ Go.Lib.ctz 64 x := hlow
  generalize 2 ^ Go.Lib.ctz 64 x = p at *
  generalize p * 285870213051353865 % 18446744073709551616 / 288230376151711744 = idx at *
  have hlen : Go.Lib.deBruijn64tab.length = 64 := by decide
  have hget : Go.Lib.deBruijn64tab[idx]? = some (Go.Lib.ctz 64 x) := by
    rw [List.getD_eq_getElem?_getD] at htab
    rw [List.getElem?_eq_getElem (by omega)] at htab ⊢
    rw [Option.getD_some] at htab
    rw [htab]
  have hd : (deBruijn.drop idx).take 1 = [AV.byte (Go.Lib.ctz 64 x)] := own_read (f := fun n : Nat => AV.byte n) hget
  have hdl : deBruijn.length = 64 := by unfold deBruijn; rw [List.length_map, hlen]
  have hI : I64 ((Go.Lib.ctz 64 x : Nat) : Int) := ⟨by omega, by omega⟩
  generalize Go.Lib.ctz 64 x = k at *
  generalize hN : 18446744073709551616 - x = nx at *
  refine callWp_of (cf := ⟨14, [0, 2, 4], [], []⟩) (rs := [.tmp 2]) Tryz.func101 rfl (by decide) rfl rfl (by simp) ?_
  simp only [go_sem, Nat.reduceBEq, Nat.reduceLT, Nat.reduceAdd, Nat.reduceMul, Nat.reduceSub, Nat.reduceLeDiff, decide_true, ne_eq, Nat.reduceEqDiff, not_false_eq_true, Classical.not_not, Int.lt_irrefl, false_implies, e1]
  refine ⟨fun h => by omega, fun _ => ?_⟩
  rw [hg, hlow2, e2]
  simp only [go_sem, Nat.reduceBEq, Nat.reduceLT, Nat.reduceAdd, Nat.reduceMul, Nat.reduceSub, Nat.reduceLeDiff, decide_true, ne_eq, Nat.reduceEqDiff, not_false_eq_true, Classical.not_not, Int.lt_irrefl, false_implies, hd, List.length_drop, hdl]
  exact ⟨⟨by omega, by omega⟩, ⟨by omega, by omega⟩, by omega, by omega, hI⟩
theorem lib_tz (hg : lookG gl 1 = .cptr deBruijn) (x : Nat) (h0 : x ≠ 0) (hx : x < 18446744073709551616) : Pure Tryz.prog gl 96 [.raw (.int .u64 x)] (.int (Go.Lib.ctz 64 x)) := by
  refine callWp_of (cf := ⟨8, [0, 2], [], []⟩) (rs := [.tmp 2]) Tryz.func96 rfl (by decide) rfl rfl (by simp) ?_
  simp only [go_sem, Nat.reduceBEq, Nat.reduceLT, Nat.reduceAdd, Nat.reduceMul, Nat.reduceSub, Nat.reduceLeDiff, decide_true, ne_eq, Nat.reduceEqDiff, not_false_eq_true, Classical.not_not, Int.lt_irrefl, false_implies]
  refine (lib_tz64 hg x h0 hx).call ?_
  simp only [go_sem, Nat.reduceBEq, Nat.reduceLT, Nat.reduceAdd, Nat.reduceMul, Nat.reduceSub, Nat.reduceLeDiff, decide_true, ne_eq, Nat.reduceEqDiff, not_false_eq_true, Classical.not_not, Int.lt_irrefl, false_implies]
theorem impl_members (hg : lookG gl 1 = .cptr deBruijn) (x : Nat) (hx : x < 2 ^ 63) : Pure Tryz.prog gl 92 [.int x] (ints (bitsOf x)) := by
  refine Pure.of (callWp_of (cf := ⟨17, [0, 2, 3, 5], [], []⟩) (rs := [.tmp 2]) Tryz.func92 rfl (by decide) rfl rfl (by simp) ?_)
  simp only [go_sem, Nat.reduceBEq, Nat.reduceLT, Nat.reduceAdd, Nat.reduceMul, Nat.reduceSub, Nat.reduceLeDiff, decide_true, ne_eq, Nat.reduceEqDiff, not_false_eq_true, Classical.not_not, Int.lt_irrefl, false_implies]
  refine LoopWp.by (fun m ρ σ => ∃ (j : Nat) (out : AV), Acc 1 (((bitsBelow x j).map Int.ofNat).map eI) out σ ∧ get ρ 0 = .int (bitsFrom x j : Nat) ∧ get ρ 3 = out ∧ j ≤ 64 ∧ m = bitsFrom x j) x ?_ ?_
  · exact ⟨0, .nils, Acc.nil 1, by simp [bitsFrom, AX.get], rfl, by omega, by simp [bitsFrom]⟩
  rintro m ρ σ ⟨j, out, hA, g0, g3, hj, rfl⟩
  by_cases h0 : bitsFrom x j = 0
  · have h1 := bitsBelow_end hj h0
    rw [h0] at g0
    simp only [go_sem, Nat.reduceBEq, Nat.reduceLT, Nat.reduceAdd, Nat.reduceMul, Nat.reduceSub, Nat.reduceLeDiff, decide_true, ne_eq, Nat.reduceEqDiff, not_false_eq_true, Classical.not_not, Int.lt_irrefl, false_implies, g0, g3]
    refine ⟨fun h => absurd rfl h, fun _ => ?_⟩
    rw [h1] at hA
    exact hA.sees
  · obtain ⟨k, hjk, hk, hctz, hbel, hand, hlt⟩ := members_step hx h0
    have hle := bitsFrom_le x j
    have hbl := bitsBelow_length x j
    have e1 : Go.IntKind.u64.wrap ((bitsFrom x j : Nat) : Int) = ((bitsFrom x j : Nat) : Int) := by rw [u64w]; omega
    have e2 : (((bitsFrom x j : Nat) : Int) - 1).toNat = bitsFrom x j - 1 := by omega
    simp only [go_sem, Nat.reduceBEq, Nat.reduceLT, Nat.reduceAdd, Nat.reduceMul, Nat.reduceSub, Nat.reduceLeDiff, decide_true, ne_eq, Nat.reduceEqDiff, not_false_eq_true, Classical.not_not, Int.lt_irrefl, false_implies, g0, g3, e1, e2, hand]
    refine ⟨fun _ => ?_, fun h => by omega⟩
    refine (lib_tz hg (bitsFrom x j) h0 (by omega)).call ?_
    rw [hctz]
    simp only [go_sem, Nat.reduceBEq, Nat.reduceLT, Nat.reduceAdd, Nat.reduceMul, Nat.reduceSub, Nat.reduceLeDiff, decide_true, ne_eq, Nat.reduceEqDiff, not_false_eq_true, Classical.not_not, Int.lt_irrefl, false_implies, g0, g3, e1, e2, hand]
    refine hA.push (σ := []) (by simp) rfl (by omega) ⟨by simp; omega, by simp⟩ fun out' τ' hA' _ => ?_
    simp only [go_sem, Nat.reduceBEq, Nat.reduceLT, Nat.reduceAdd, Nat.reduceMul, Nat.reduceSub, Nat.reduceLeDiff, decide_true, ne_eq, Nat.reduceEqDiff, not_false_eq_true, Classical.not_not, Int.lt_irrefl, false_implies, g0, g3, e1, e2, hand]
    refine ⟨⟨by omega, by omega⟩, ⟨by omega, by omega⟩, _, hlt, k + 1, out', ?_, rfl, rfl, by omega, rfl⟩
    rw [hbel]; simpa [eI] using hA'
theorem impl_movesOf (s : Ts) (hs : sysOk s = true) (hl : s.ed.length ≤ 1048576) : Pure Tryz.prog gl 91 [.agg (eS s)] (.cptr ((mvCells s.ed).map AV.int)) := by
  have hst := sysOk_st hs
  refine Pure.own (callWp_of (cf := ⟨32, [0, 1, 2, 3, 5, 8, 9, 10, 11], [], [1, 7]⟩) (rs := [.tmp 2]) Tryz.func91 rfl (by decide) rfl rfl (by simp) ?_)
  simp only [go_sem, Nat.reduceBEq, Nat.reduceLT, Nat.reduceAdd, Nat.reduceMul, Nat.reduceSub, Nat.reduceLeDiff, decide_true, ne_eq, Nat.reduceEqDiff, not_false_eq_true, Classical.not_not, Int.lt_irrefl, false_implies]
  intro b
  refine LoopWp.byT (fun m ρ σ => ∃ i : Nat, get ρ 3 = .ptr b 0 ∧ get ρ 8 = edges s.ed ∧ get ρ 9 = .int s.ed.length ∧ get ρ 10 = .int i ∧ i ≤ s.ed.length ∧ σ = [(b, .own ((mvCells (s.ed.take i)).map AV.int))] ∧ m = s.ed.length - i) s.ed.length ?_ ?_
  · exact ⟨_, Turn.refl _, 0, rfl, rfl, rfl, rfl, by omega, by rw [List.take_zero, mvCells_nil, List.map_replicate, List.map_replicate]; rfl, by omega⟩
  rintro m ρ σ ⟨i, g3, g8, g9, g10, hi, rfl, rfl⟩
  by_cases hlt : i < s.ed.length
  · obtain ⟨e, he⟩ : ∃ e, s.ed[i]? = some e := ⟨_, List.getElem?_eq_getElem hlt⟩
    have hE := sysOk_ed hs e (List.mem_of_getElem? he)
    simp only [edOk, Bool.and_eq_true, decide_eq_true_eq] at hE
    obtain ⟨⟨h1, h2⟩, _⟩ := hE
    obtain ⟨q, hq⟩ := Int.eq_ofNat_of_zero_le h1.1
    obtain ⟨l, hl'⟩ := Int.eq_ofNat_of_zero_le h2.1
    obtain ⟨t, ht⟩ := Int.eq_ofNat_of_zero_le h1.2.2.1
    have hget := mvCells_get (s.ed.take i) (q := q) (l := l) (by omega) (by omega)
    have hmb := mbits_lt (es := s.ed.take i) (fun x hx => by
      have h3 := sysOk_ed hs x (List.mem_of_mem_take hx)
      simp only [edOk, Bool.and_eq_true, decide_eq_true_eq] at h3
      omega) q l
    have hstep : s.ed.take (i + 1) = s.ed.take i ++ [e] := by rw [List.take_add_one, he]; rfl
    have hnew := mvCells_snoc (s.ed.take i) e (q := q) (l := l) ⟨hq, by omega⟩ ⟨hl', by omega⟩
    have hlen := mvCells_length (s.ed.take i)
    have hrd := own_read (f := AV.int) hget
    have hwr := own_write (f := AV.int) (l := mvCells (s.ed.take i)) (i := q * 6 + l) (y := ((mbits (s.ed.take i) q l ||| 2 ^ t : Nat) : Int)) (by omega)
    have ht2 : e.to.toNat = t := by omega
    rw [ht2, ← hstep] at hnew
    rw [← hnew] at hwr
    generalize mvCells (s.ed.take i) = C at *
    generalize mbits (s.ed.take i) q l = B at *
    simp only [go_sem, Nat.reduceBEq, Nat.reduceLT, Nat.reduceAdd, Nat.reduceMul, Nat.reduceSub, Nat.reduceLeDiff, decide_true, ne_eq, Nat.reduceEqDiff, not_false_eq_true, Classical.not_not, Int.lt_irrefl, false_implies, g3, g8, g9, g10, he]
    refine ⟨fun _ b5 ⟨n1, n2⟩ => ?_, fun h => by omega⟩
    have hb1 := beq_false_of_ne n1
    have hb2 := beq_false_of_ne n2
    have hp16 : t < 16 := by omega
    have e1 : (1 * (2 : Int) ^ t).toNat = 2 ^ t := by rw [Int.one_mul]; exact Int.toNat_pow_of_nonneg (by omega) t
    refine DrawK.text mixed (by kernel_rfl) ?_
    simp only [go_sem, Nat.reduceBEq, Nat.reduceLT, Nat.reduceAdd, Nat.reduceMul, Nat.reduceSub, Nat.reduceLeDiff, decide_true, ne_eq, Nat.reduceEqDiff, not_false_eq_true, Classical.not_not, Int.lt_irrefl, false_implies, g3, g8, g9, g10, hb1, hb2, hq, hl', ht, hrd, hwr, e1, hlen]
    have hpN : 2 ^ t ≤ 2 ^ 15 := Nat.pow_le_pow_right (by decide) (by omega)
    have hpI : (1 : Int) * 2 ^ t = ((2 ^ t : Nat) : Int) := by rw [Int.one_mul]; simp
    rw [hpI]
    refine ⟨by omega, by omega, by omega, ⟨by omega, by omega, by omega⟩, ⟨by omega, by omega, by omega⟩, by omega, by omega, by omega, ⟨by omega, by omega⟩, _, Turn.sub (List.sublist_cons_self _ _), _, ?_, i + 1, rfl, rfl, rfl, rfl, by omega, rfl, rfl⟩
    omega
  · have : i = s.ed.length := by omega
    subst this
    rw [List.take_length]
    simp only [go_sem, Nat.reduceBEq, Nat.reduceLT, Nat.reduceAdd, Nat.reduceMul, Nat.reduceSub, Nat.reduceLeDiff, decide_true, ne_eq, Nat.reduceEqDiff, not_false_eq_true, Classical.not_not, Int.lt_irrefl, false_implies, g3, g8, g9, g10]
    exact Gh.ptr (GhAll.refl [] _)
end Go.Proofs
end
section
/- Contracts: the impl's parts. -/
namespace Go.Proofs
open Go.AX AG
variable {gl : Globs}
set_option maxRecDepth 10000
set_option linter.unusedSimpArgs false

@[go_sem] def eM (s : Ts) : List AV := [.cptr ((mvCells s.ed).map AV.int)]
@[go_sem] def eP (l : List Ts) : List AV := [systems l, .list 1 (l.map eM)]

theorem impl_newParts (l : List Ts) (hl : l.length ≤ 1048576) (hs : ∀ s ∈ l, sysOk s = true ∧ s.ed.length ≤ 1048576) : Pure Tryz.prog gl 79 [systems l] (.agg (eP l)) := by
  refine Pure.own (callWp_of (cf := ⟨23, [0, 2, 3, 5, 8, 9, 10, 11], [], []⟩) (rs := [.cell 2 111]) Tryz.func79 rfl (by decide) rfl rfl (by simp) ?_)
  simp only [go_sem, Nat.reduceBEq, Nat.reduceLT, Nat.reduceAdd, Nat.reduceMul, Nat.reduceSub, Nat.reduceLeDiff, decide_true, ne_eq, Nat.reduceEqDiff, not_false_eq_true, Classical.not_not, Int.lt_irrefl, false_implies]
  intro b2 b3 ⟨n1, n2⟩
  have hb1 := beq_false_of_ne n1
  have hb2 := beq_false_of_ne n2
  refine LoopWp.byT (fun m ρ σ => ∃ (i : Nat) (out : AV) (τ : Store) (x : AV), Acc 1 ((l.take i).map eM) out τ ∧ Dj τ [(b3, .own [systems l, out]), (b2, .own [.nils, .nils])] ∧ get ρ 2 = .ptr b2 0 ∧ get ρ 3 = .ptr b3 0 ∧ get ρ 8 = systems l ∧ get ρ 9 = .int l.length ∧ get ρ 10 = .int i ∧ i ≤ l.length ∧
      σ = τ ++ [(b3, .own [systems l, out]), (b2, .own [.nils, .nils])] ∧ m = l.length - i) l.length ?_ ?_
  · exact ⟨_, Turn.refl _, 0, .nils, [], .top, Acc.nil 1, Dj.nil _, rfl, rfl, rfl, rfl, rfl, by omega, rfl, by omega⟩
  rintro m ρ σ ⟨i, out, τ, x, hA, hD, g2, g3, g8, g9, g10, hi, rfl, rfl⟩
  by_cases hlt : i < l.length
  · obtain ⟨s, hs'⟩ : ∃ s, l[i]? = some s := ⟨_, List.getElem?_eq_getElem hlt⟩
    obtain ⟨hok, hel⟩ := hs s (List.mem_of_getElem? hs')
    simp only [go_sem, Nat.reduceBEq, Nat.reduceLT, Nat.reduceAdd, Nat.reduceMul, Nat.reduceSub, Nat.reduceLeDiff, decide_true, ne_eq, Nat.reduceEqDiff, not_false_eq_true, Classical.not_not, Int.lt_irrefl, false_implies, g2, g3, g8, g9, g10, hs']
    refine ⟨fun _ b5 hf5 => ?_, fun h => by omega⟩
    have hL := hD.look
    have hn1 := beq_false_of_ne (fresh_ne hf5 (hL _ _))
    refine DrawK.text mixed (by kernel_rfl) ?_
    simp only [go_sem, Nat.reduceBEq, Nat.reduceLT, Nat.reduceAdd, Nat.reduceMul, Nat.reduceSub, Nat.reduceLeDiff, decide_true, ne_eq, Nat.reduceEqDiff, not_false_eq_true, Classical.not_not, Int.lt_irrefl, false_implies, g2, g3, g8, g9, g10, hn1, hL]
    refine ⟨_, impl_movesOf s hok hel, ?_⟩
    simp only [go_sem, Nat.reduceBEq, Nat.reduceLT, Nat.reduceAdd, Nat.reduceMul, Nat.reduceSub, Nat.reduceLeDiff, decide_true, ne_eq, Nat.reduceEqDiff, not_false_eq_true, Classical.not_not, Int.lt_irrefl, false_implies, g2, g3, g8, g9, g10, hn1, hL]
    have hAl : ((l.take i).map eM).length < 1073741824 := by simp; omega
    refine hA.pushB (τp := [(b5, .own (eS s))]) (σ := [(b3, .own [systems l, out]), (b2, .own [.nils, .nils])]) (fun p hp => ?_) rfl rfl (by decide) ⟨hAl, by decide⟩ fun out' τ' hA' hD' => ?_
    · simp only [List.mem_singleton] at hp; subst hp
      exact fresh_app_left hf5
    have hA3 : Away b3 τ' := Away.of hD' (o := .own [systems l, out]) (by rw [List.singleton_append, look_cons_ne hn1, look_hd])
    have hc := hA'.cells
    simp only [go_sem, Nat.reduceBEq, Nat.reduceLT, Nat.reduceAdd, Nat.reduceMul, Nat.reduceSub, Nat.reduceLeDiff, decide_true, ne_eq, Nat.reduceEqDiff, not_false_eq_true, Classical.not_not, Int.lt_irrefl, false_implies, g2, g3, g8, g9, g10, hn1, hA3.look, hA3.set, hc]
    refine ⟨⟨by omega, by omega⟩, _, Turn.sub (List.Sublist.append (List.Sublist.refl τ') (List.sublist_cons_self _ _)), _, ?_, i + 1, out', τ', .top, ?_, fun p hp => ?_, rfl, rfl, rfl, rfl, rfl, by omega, rfl, rfl⟩
    · omega
    · rw [List.take_add_one, hs', List.map_append]; exact hA'
    · have := hD' p hp
      exact this.2
  · have : i = l.length := by omega
    subst this
    rw [List.take_length] at hA
    have hL := hD.look
    have hA2 : Away b2 τ := Away.of hD (o := .own [.nils, .nils]) (by rw [look_cons_ne hb2, look_hd])
    have hc := hA.cells
    simp only [go_sem, Nat.reduceBEq, Nat.reduceLT, Nat.reduceAdd, Nat.reduceMul, Nat.reduceSub, Nat.reduceLeDiff, decide_true, ne_eq, Nat.reduceEqDiff, not_false_eq_true, Classical.not_not, Int.lt_irrefl, false_implies, g2, g3, g8, g9, g10, hL, hA2.look, hA2.set, hc, hb2]
    have h1 : Gh gl τ (.agg [systems l, out]) [] (.agg (eP l)) := GhAll.agg (Gh.cons (Gh.of (Sees.refl _)) hA.gh.all)
    exact Gh.cut (List.sublist_append_left τ _) h1
end Go.Proofs
end
