/- Contracts of the functions that the law reaches. -/
import Derived.Test.YtgcglnaffdgpbaaGreatDoorWalkD
import Derived.Test.YtgcglnaffdgpbaaGreatDoorPlainB
section
/- Contracts: the impl's parts, their size and their moves. -/
namespace Go.Proofs
open Go.AX AG
variable {gl : Globs}
set_option maxRecDepth 10000
set_option linter.unusedSimpArgs false

theorem impl_size (l : List Ts) (hl : l.length ≤ 3) (hs : ∀ s ∈ l, sysOk s = true) : Pure Tryz.prog gl 86 [.agg (eP l)] (.int (szP l)) := by
  refine Pure.of (callWp_of (cf := ⟨19, [0, 1, 2, 3, 5, 7, 8, 9, 10], [], [1, 6]⟩) (rs := [.tmp 2]) Tryz.func86 rfl (by decide) rfl rfl (by simp) ?_)
  simp only [go_sem, Nat.reduceBEq, Nat.reduceLT, Nat.reduceAdd, Nat.reduceMul, Nat.reduceSub, Nat.reduceLeDiff, decide_true, ne_eq, Nat.reduceEqDiff, not_false_eq_true, Classical.not_not, Int.lt_irrefl, false_implies]
  refine LoopWp.byT (fun m ρ σ => ∃ i : Nat, get ρ 3 = .int (szP (l.take i)) ∧ get ρ 7 = systems l ∧ get ρ 8 = .int l.length ∧ get ρ 9 = .int i ∧ i ≤ l.length ∧ σ = [] ∧ m = l.length - i) l.length ?_ ?_
  · exact ⟨_, Turn.refl _, 0, rfl, rfl, rfl, rfl, by omega, rfl, by omega⟩
  rintro m ρ σ ⟨i, g3, g7, g8, g9, hi, rfl, rfl⟩
  have h1 := szP_pos hs i hi
  have h2 := pow16 (i := i) (by omega)
  by_cases hlt : i < l.length
  · obtain ⟨s, hs'⟩ : ∃ s, l[i]? = some s := ⟨_, List.getElem?_eq_getElem hlt⟩
    have h3 := sysOk_st (hs s (List.mem_of_getElem? hs'))
    have h4 : 0 ≤ szP (l.take i) * s.st ∧ szP (l.take i) * s.st ≤ 1048576 * 16 := ⟨Int.mul_nonneg (by omega) (by omega), Int.mul_le_mul (by omega) h3.2 (by omega) (by omega)⟩
    simp only [go_sem, Nat.reduceBEq, Nat.reduceLT, Nat.reduceAdd, Nat.reduceMul, Nat.reduceSub, Nat.reduceLeDiff, decide_true, ne_eq, Nat.reduceEqDiff, not_false_eq_true, Classical.not_not, Int.lt_irrefl, false_implies, g3, g7, g8, g9, hs']
    refine ⟨fun _ b => ⟨⟨by omega, by omega⟩, ⟨by omega, by omega⟩, _, Turn.sub (List.nil_sublist _), _, ?_, i + 1, by rw [szP_take hs']; rfl, rfl, rfl, rfl, by omega, rfl, rfl⟩, fun h => by omega⟩
    omega
  · have : i = l.length := by omega
    subst this
    rw [List.take_length] at g3
    simp only [go_sem, Nat.reduceBEq, Nat.reduceLT, Nat.reduceAdd, Nat.reduceMul, Nat.reduceSub, Nat.reduceLeDiff, decide_true, ne_eq, Nat.reduceEqDiff, not_false_eq_true, Classical.not_not, Int.lt_irrefl, false_implies, g3, g7, g8, g9]
    exact Sees.refl _
set_option maxHeartbeats 1000000 in
theorem impl_next (hg : lookG gl 1 = .cptr deBruijn) (l : List Ts) (hl : l.length ≤ 3) (hs : ∀ s ∈ l, sysOk s = true) (node letter : Int) (hn : 0 ≤ node ∧ node ≤ 1073741824) (hlt : 0 ≤ letter ∧ letter < 6) (xs : List Int) (out : AV) (τ : Store) (hB : Buf 1 (xs.map eI) out τ) (hx : xs.length ≤ 8589934592) :
    CallWp Tryz.prog gl 83 [.agg (eP l), .int node, .int letter, out] τ fun r σ => Buf 1 ((xs ++ pnext l node letter).map eI) r σ := by
  refine callWp_of (cf := ⟨91, [0, 1, 2, 3, 4, 8, 9, 10, 11, 12, 13, 14, 16, 18, 25, 41, 57, 58, 59, 60, 63, 64, 65, 66], [90], [4, 20, 28, 42]⟩) (rs := [.tmp 8]) Tryz.func83 rfl (by decide) rfl rfl (by simp) ?_
  simp only [go_sem, Nat.reduceBEq, Nat.reduceLT, Nat.reduceAdd, Nat.reduceMul, Nat.reduceSub, Nat.reduceLeDiff, decide_true, ne_eq, Nat.reduceEqDiff, not_false_eq_true, Classical.not_not, Int.lt_irrefl, false_implies]
  have hI : I64 ((l.length : Int) - 1) := ⟨by omega, by omega⟩
  refine ⟨hI, ?_⟩
  refine LoopWp.byR (fun m ρ σ => ∃ k : Nat, k ≤ l.length ∧ get ρ 1 = .int (pnUp l letter node k).1 ∧ get ρ 2 = .int letter ∧ get ρ 3 = out ∧ get ρ 4 = .cptr (eP l) ∧ get ρ 9 = ints (pnUp l letter node k).2.2 ∧ get ρ 10 = .int (pnUp l letter node k).2.1 ∧ get ρ 11 = .int ((l.length : Int) - 1 - k) ∧ σ = τ ∧ m = l.length - k) l.length ?_ ?_
  · exact ⟨_, _, Recast.refl _ _, 0, by omega, rfl, rfl, rfl, rfl, rfl, rfl, by simp [AX.get], rfl, by omega⟩
  rintro m ρ σ ⟨k, hk, g1, g2, g3, g4, g9, g10, g11, rfl, rfl⟩
  obtain ⟨⟨a1, a2⟩, ⟨b1, b2⟩, hc, hd⟩ := pnUp_in hs (letter := letter) hn.1 k hk
  have hp16 := pow16 (i := k) (by omega)
  by_cases hlt2 : k < l.length
  · obtain ⟨s, hs'⟩ : ∃ s, l[l.length - 1 - k]? = some s := ⟨_, List.getElem?_eq_getElem (by omega)⟩
    have hok := hs s (List.mem_of_getElem? hs')
    have hst := sysOk_st hok
    have hal := sysOk_al hok
    have hstep := pnUp_succ (letter := letter) (node := node) hs'
    have hti := tos_in hok (q := (pnUp l letter node k).1 % s.st) (l := letter) ⟨Int.emod_nonneg _ (by omega), Int.emod_lt_of_pos _ (by omega)⟩
    generalize pnUp l letter node k = st at *
    obtain ⟨nd, w, R⟩ := st
    simp only [stepP] at *
    have e : ((l.length : Int) - 1 - k).toNat = l.length - 1 - k := by omega
    simp only [go_sem, Nat.reduceBEq, Nat.reduceLT, Nat.reduceAdd, Nat.reduceMul, Nat.reduceSub, Nat.reduceLeDiff, decide_true, ne_eq, Nat.reduceEqDiff, not_false_eq_true, Classical.not_not, Int.lt_irrefl, false_implies, g1, g2, g3, g4, g9, g10, g11, hs', e]
    refine ⟨fun _ => ⟨by omega, fun b hf => ⟨⟨a1, by omega⟩, ?_⟩⟩, fun h => by omega⟩
    have hD0 : Dj [] ((b, AObj.own [.int s.al, .int s.st, .list 3 (s.ed.map eE)]) :: σ) := Dj.nil _
    refine (impl_has s.al letter (by omega) (by omega)).call ?_
    cases hh : hasL s.al letter
    · have hT : tos s (nd % s.st) letter = [nd % s.st] := by simp [tos, hh]
      simp only [go_sem, Nat.reduceBEq, Nat.reduceLT, Nat.reduceAdd, Nat.reduceMul, Nat.reduceSub, Nat.reduceLeDiff, decide_true, ne_eq, Nat.reduceEqDiff, not_false_eq_true, Classical.not_not, Int.lt_irrefl, false_implies, g1, g2, g3, g4, g9, g10, g11]
      generalize tos s (nd % s.st) letter = T at *
      have hlen2 : ∀ L : List Int, (L.flatMap fun q => R.map fun x => q * w + x).length = L.length * R.length := fun L => by
        induction L with
        | nil => simp
        | cons q L ih => simp only [List.flatMap_cons, List.length_append, List.length_map, List.length_cons, ih, Nat.add_mul, Nat.one_mul]; omega
      refine LoopWp.by (fun m ρ σ' => ∃ (i : Nat) (more : AV) (τ2 : Store), Acc 1 (((T.take i).flatMap fun q => R.map fun x => q * w + x).map eI) more τ2 ∧ Dj τ2 ((b, .own (eS s)) :: σ) ∧ σ' = τ2 ++ ((b, .own (eS s)) :: σ) ∧
        get ρ 1 = .int nd ∧ get ρ 2 = .int letter ∧ get ρ 3 = out ∧ get ρ 4 = .cptr (eP l) ∧ get ρ 9 = ints R ∧ get ρ 10 = .int w ∧ get ρ 11 = .int ((l.length : Int) - 1 - k) ∧ get ρ 12 = .ptr b 0 ∧ get ρ 14 = more ∧ get ρ 57 = ints T ∧ get ρ 58 = .int T.length ∧ get ρ 59 = .int i ∧ i ≤ T.length ∧ m = T.length - i) T.length ?_ ?_
      · exact ⟨0, .nils, [], Acc.nil 1, Dj.nil _, rfl, rfl, rfl, rfl, rfl, rfl, rfl, rfl, rfl, rfl, by rw [hT]; rfl, by rw [hT]; rfl, rfl, by omega, by omega⟩
      rintro m ρ σ' ⟨i, more, τ2, hA, hDj, rfl, g1, g2, g3, g4, g9, g10, g11, g12, g14, g57, g58, g59, hi, rfl⟩
      by_cases hlt3 : i < T.length
      · obtain ⟨q, hq⟩ : ∃ q, T[i]? = some q := ⟨_, List.getElem?_eq_getElem hlt3⟩
        have hq2 := hti.1 q (List.mem_of_getElem? hq)
        have hup : (T.take (i + 1)).flatMap (fun q => R.map fun x => q * w + x) = (T.take i).flatMap (fun q => R.map fun x => q * w + x) ++ R.map fun x => q * w + x := by rw [List.take_add_one, hq]; simp
        have hl2 := hlen2 (T.take i)
        rw [List.length_take, Nat.min_eq_left hi] at hl2
        have hmul : i * R.length ≤ 16 * 1048576 := Nat.mul_le_mul (by omega) (by omega)
        simp only [go_sem, Nat.reduceBEq, Nat.reduceLT, Nat.reduceAdd, Nat.reduceMul, Nat.reduceSub, Nat.reduceLeDiff, decide_true, ne_eq, Nat.reduceEqDiff, not_false_eq_true, Classical.not_not, Int.lt_irrefl, false_implies, g1, g2, g3, g4, g9, g10, g11, g12, g14, g57, g58, g59, hq]
        refine ⟨fun _ => ?_, fun h => by omega⟩
        refine LoopWp.by (fun m ρ σ' => ∃ (j : Nat) (more : AV) (τ2 : Store), Acc 1 (((T.take i).flatMap (fun q => R.map fun x => q * w + x) ++ (R.take j).map fun x => q * w + x).map eI) more τ2 ∧ Dj τ2 ((b, .own (eS s)) :: σ) ∧ σ' = τ2 ++ ((b, .own (eS s)) :: σ) ∧
          get ρ 1 = .int nd ∧ get ρ 2 = .int letter ∧ get ρ 3 = out ∧ get ρ 4 = .cptr (eP l) ∧ get ρ 9 = ints R ∧ get ρ 10 = .int w ∧ get ρ 11 = .int ((l.length : Int) - 1 - k) ∧ get ρ 12 = .ptr b 0 ∧ get ρ 14 = more ∧ get ρ 16 = .int q ∧ get ρ 57 = ints T ∧ get ρ 58 = .int T.length ∧ get ρ 59 = .int i ∧ get ρ 63 = ints R ∧ get ρ 64 = .int R.length ∧ get ρ 65 = .int j ∧ j ≤ R.length ∧ m = R.length - j) R.length ?_ ?_
        · exact ⟨0, more, τ2, by simpa using hA, hDj, rfl, rfl, rfl, rfl, rfl, rfl, rfl, rfl, rfl, rfl, rfl, rfl, rfl, rfl, rfl, rfl, rfl, by omega, by omega⟩
        rintro m ρ σ' ⟨j, more, τ2, hA, hDj, rfl, g1, g2, g3, g4, g9, g10, g11, g12, g14, g16, g57, g58, g59, g63, g64, g65, hj, rfl⟩
        by_cases hlt4 : j < R.length
        · obtain ⟨x, hx'⟩ : ∃ x, R[j]? = some x := ⟨_, List.getElem?_eq_getElem hlt4⟩
          have hx2 := hd x (List.mem_of_getElem? hx')
          have hqw : 0 ≤ q * w ∧ q * w ≤ 16 * 1048576 := ⟨Int.mul_nonneg hq2.1 (by omega), Int.mul_le_mul (by omega) (by omega) (by omega) (by omega)⟩
          simp only [go_sem, Nat.reduceBEq, Nat.reduceLT, Nat.reduceAdd, Nat.reduceMul, Nat.reduceSub, Nat.reduceLeDiff, decide_true, ne_eq, Nat.reduceEqDiff, not_false_eq_true, Classical.not_not, Int.lt_irrefl, false_implies, g1, g2, g3, g4, g9, g10, g11, g12, g14, g16, g57, g58, g59, g63, g64, g65, hx']
          refine ⟨fun _ => ⟨⟨by omega, by omega⟩, ⟨by omega, by omega⟩, ?_⟩, fun h => by omega⟩
          refine hA.push rfl rfl (by decide) ⟨by rw [List.length_map, List.length_append, hl2, List.length_map, List.length_take]; omega, by simp⟩ fun out' τ' hA' hD' => ?_
          simp only [go_sem, Nat.reduceBEq, Nat.reduceLT, Nat.reduceAdd, Nat.reduceMul, Nat.reduceSub, Nat.reduceLeDiff, decide_true, ne_eq, Nat.reduceEqDiff, not_false_eq_true, Classical.not_not, Int.lt_irrefl, false_implies, g1, g2, g3, g4, g9, g10, g11, g12, g14, g16, g57, g58, g59, g63, g64, g65]
          refine ⟨⟨by omega, by omega⟩, _, ?_, j + 1, out', τ', ?_, hD', rfl, rfl, rfl, rfl, rfl, rfl, rfl, rfl, rfl, rfl, rfl, rfl, rfl, rfl, rfl, rfl, rfl, by omega, rfl⟩
          · omega
          · rw [List.take_add_one, hx']; simpa [eI] using hA'
        · have : j = R.length := by omega
          subst this
          rw [List.take_length, ← hup] at hA
          simp only [go_sem, Nat.reduceBEq, Nat.reduceLT, Nat.reduceAdd, Nat.reduceMul, Nat.reduceSub, Nat.reduceLeDiff, decide_true, ne_eq, Nat.reduceEqDiff, not_false_eq_true, Classical.not_not, Int.lt_irrefl, false_implies, g1, g2, g3, g4, g9, g10, g11, g12, g14, g16, g57, g58, g59, g63, g64, g65]
          refine ⟨⟨by omega, by omega⟩, _, ?_, i + 1, more, τ2, hA, hDj, rfl, rfl, rfl, rfl, rfl, rfl, rfl, rfl, rfl, rfl, rfl, rfl, rfl, by omega, rfl⟩
          omega
      · have : i = T.length := by omega
        subst this
        rw [List.take_length] at hA
        have hAw : Away b τ2 := Away.of hDj look_hd
        have hws : 0 ≤ w * s.st ∧ w * s.st ≤ 1048576 * 16 := ⟨Int.mul_nonneg (by omega) (by omega), Int.mul_le_mul (by omega) hst.2 (by omega) (by omega)⟩
        simp only [go_sem, Nat.reduceBEq, Nat.reduceLT, Nat.reduceAdd, Nat.reduceMul, Nat.reduceSub, Nat.reduceLeDiff, decide_true, ne_eq, Nat.reduceEqDiff, not_false_eq_true, Classical.not_not, Int.lt_irrefl, false_implies, g1, g2, g3, g4, g9, g10, g11, g12, g14, g57, g58, g59, hAw.look]
        have hR := fun ρ (h : get ρ 9 = more) => (Recast.gh (gl := gl) (τ := τ2) (σ := (b, .own (eS s)) :: σ) (k := 9) (ρ := ρ) h hA.gh).trans (Recast.turn (Turn.sub (List.sublist_cons_self _ _)))
        refine ⟨⟨by omega, by omega, by omega⟩, ⟨by omega, by omega⟩, ⟨by omega, by omega⟩, _, _, hR _ rfl, _, ?_, k + 1, by omega, by rw [hstep]; rfl, rfl, rfl, rfl, by rw [hstep]; rfl, by rw [hstep]; rfl, ?_, rfl, rfl⟩
        · omega
        · exact congrArg AV.int (show (l.length : Int) - 1 - k - 1 = (l.length : Int) - 1 - ((k + 1 : Nat) : Int) by omega)
    · have hT : tos s (nd % s.st) letter = bitsOf (mbits s.ed (nd % s.st) letter) := by simp [tos, hh]
      simp only [go_sem, Nat.reduceBEq, Nat.reduceLT, Nat.reduceAdd, Nat.reduceMul, Nat.reduceSub, Nat.reduceLeDiff, decide_true, ne_eq, Nat.reduceEqDiff, not_false_eq_true, Classical.not_not, Int.lt_irrefl, false_implies, g1, g2, g3, g4, g9, g10, g11]
      obtain ⟨qn, hqn⟩ := Int.eq_ofNat_of_zero_le (Int.emod_nonneg nd (show s.st ≠ 0 by omega))
      obtain ⟨ln, hln⟩ := Int.eq_ofNat_of_zero_le hlt.1
      have hqlt := Int.emod_lt_of_pos nd (show 0 < s.st by omega)
      have hcell := mvCells_get s.ed (q := qn) (l := ln) (by omega) (by omega)
      rw [← hqn, ← hln] at hcell
      have hrd := own_read (f := AV.int) hcell
      have hclen := mvCells_length s.ed
      have t1 : (nd % s.st).toNat = qn := by omega
      have t2 : letter.toNat = ln := by omega
      have hto : ∀ e ∈ s.ed, 0 ≤ e.to ∧ e.to < 16 := fun e he => by
        have h1 := sysOk_ed hok e he
        simp only [edOk, Bool.and_eq_true, decide_eq_true_eq] at h1
        omega
      have hmb := mbits_lt hto (nd % s.st) letter
      refine DrawK.text mixed (by kernel_rfl) ?_
      simp only [go_sem, Nat.reduceBEq, Nat.reduceLT, Nat.reduceAdd, Nat.reduceMul, Nat.reduceSub, Nat.reduceLeDiff, decide_true, ne_eq, Nat.reduceEqDiff, not_false_eq_true, Classical.not_not, Int.lt_irrefl, false_implies, g1, g2, g3, g4, g9, g10, g11, hs', e, t1, t2, List.drop_drop, hrd, List.length_drop, hclen]
      refine ⟨by omega, ⟨a1, by omega⟩, ⟨by omega, by omega⟩, ⟨by omega, by omega⟩, by omega, _, impl_members hg (mbits s.ed (nd % s.st) letter) (by omega), ?_⟩
      simp only [go_sem, Nat.reduceBEq, Nat.reduceLT, Nat.reduceAdd, Nat.reduceMul, Nat.reduceSub, Nat.reduceLeDiff, decide_true, ne_eq, Nat.reduceEqDiff, not_false_eq_true, Classical.not_not, Int.lt_irrefl, false_implies, g1, g2, g3, g4, g9, g10, g11]
      generalize tos s (nd % s.st) letter = T at *
      have hlen2 : ∀ L : List Int, (L.flatMap fun q => R.map fun x => q * w + x).length = L.length * R.length := fun L => by
        induction L with
        | nil => simp
        | cons q L ih => simp only [List.flatMap_cons, List.length_append, List.length_map, List.length_cons, ih, Nat.add_mul, Nat.one_mul]; omega
      refine LoopWp.by (fun m ρ σ' => ∃ (i : Nat) (more : AV) (τ2 : Store), Acc 1 (((T.take i).flatMap fun q => R.map fun x => q * w + x).map eI) more τ2 ∧ Dj τ2 ((b, .own (eS s)) :: σ) ∧ σ' = τ2 ++ ((b, .own (eS s)) :: σ) ∧
        get ρ 1 = .int nd ∧ get ρ 2 = .int letter ∧ get ρ 3 = out ∧ get ρ 4 = .cptr (eP l) ∧ get ρ 9 = ints R ∧ get ρ 10 = .int w ∧ get ρ 11 = .int ((l.length : Int) - 1 - k) ∧ get ρ 12 = .ptr b 0 ∧ get ρ 14 = more ∧ get ρ 57 = ints T ∧ get ρ 58 = .int T.length ∧ get ρ 59 = .int i ∧ i ≤ T.length ∧ m = T.length - i) T.length ?_ ?_
      · exact ⟨0, .nils, [], Acc.nil 1, Dj.nil _, rfl, rfl, rfl, rfl, rfl, rfl, rfl, rfl, rfl, rfl, by rw [hT]; rfl, by rw [hT]; rfl, rfl, by omega, by omega⟩
      rintro m ρ σ' ⟨i, more, τ2, hA, hDj, rfl, g1, g2, g3, g4, g9, g10, g11, g12, g14, g57, g58, g59, hi, rfl⟩
      by_cases hlt3 : i < T.length
      · obtain ⟨q, hq⟩ : ∃ q, T[i]? = some q := ⟨_, List.getElem?_eq_getElem hlt3⟩
        have hq2 := hti.1 q (List.mem_of_getElem? hq)
        have hup : (T.take (i + 1)).flatMap (fun q => R.map fun x => q * w + x) = (T.take i).flatMap (fun q => R.map fun x => q * w + x) ++ R.map fun x => q * w + x := by rw [List.take_add_one, hq]; simp
        have hl2 := hlen2 (T.take i)
        rw [List.length_take, Nat.min_eq_left hi] at hl2
        have hmul : i * R.length ≤ 16 * 1048576 := Nat.mul_le_mul (by omega) (by omega)
        simp only [go_sem, Nat.reduceBEq, Nat.reduceLT, Nat.reduceAdd, Nat.reduceMul, Nat.reduceSub, Nat.reduceLeDiff, decide_true, ne_eq, Nat.reduceEqDiff, not_false_eq_true, Classical.not_not, Int.lt_irrefl, false_implies, g1, g2, g3, g4, g9, g10, g11, g12, g14, g57, g58, g59, hq]
        refine ⟨fun _ => ?_, fun h => by omega⟩
        refine LoopWp.by (fun m ρ σ' => ∃ (j : Nat) (more : AV) (τ2 : Store), Acc 1 (((T.take i).flatMap (fun q => R.map fun x => q * w + x) ++ (R.take j).map fun x => q * w + x).map eI) more τ2 ∧ Dj τ2 ((b, .own (eS s)) :: σ) ∧ σ' = τ2 ++ ((b, .own (eS s)) :: σ) ∧
          get ρ 1 = .int nd ∧ get ρ 2 = .int letter ∧ get ρ 3 = out ∧ get ρ 4 = .cptr (eP l) ∧ get ρ 9 = ints R ∧ get ρ 10 = .int w ∧ get ρ 11 = .int ((l.length : Int) - 1 - k) ∧ get ρ 12 = .ptr b 0 ∧ get ρ 14 = more ∧ get ρ 16 = .int q ∧ get ρ 57 = ints T ∧ get ρ 58 = .int T.length ∧ get ρ 59 = .int i ∧ get ρ 63 = ints R ∧ get ρ 64 = .int R.length ∧ get ρ 65 = .int j ∧ j ≤ R.length ∧ m = R.length - j) R.length ?_ ?_
        · exact ⟨0, more, τ2, by simpa using hA, hDj, rfl, rfl, rfl, rfl, rfl, rfl, rfl, rfl, rfl, rfl, rfl, rfl, rfl, rfl, rfl, rfl, rfl, by omega, by omega⟩
        rintro m ρ σ' ⟨j, more, τ2, hA, hDj, rfl, g1, g2, g3, g4, g9, g10, g11, g12, g14, g16, g57, g58, g59, g63, g64, g65, hj, rfl⟩
        by_cases hlt4 : j < R.length
        · obtain ⟨x, hx'⟩ : ∃ x, R[j]? = some x := ⟨_, List.getElem?_eq_getElem hlt4⟩
          have hx2 := hd x (List.mem_of_getElem? hx')
          have hqw : 0 ≤ q * w ∧ q * w ≤ 16 * 1048576 := ⟨Int.mul_nonneg hq2.1 (by omega), Int.mul_le_mul (by omega) (by omega) (by omega) (by omega)⟩
          simp only [go_sem, Nat.reduceBEq, Nat.reduceLT, Nat.reduceAdd, Nat.reduceMul, Nat.reduceSub, Nat.reduceLeDiff, decide_true, ne_eq, Nat.reduceEqDiff, not_false_eq_true, Classical.not_not, Int.lt_irrefl, false_implies, g1, g2, g3, g4, g9, g10, g11, g12, g14, g16, g57, g58, g59, g63, g64, g65, hx']
          refine ⟨fun _ => ⟨⟨by omega, by omega⟩, ⟨by omega, by omega⟩, ?_⟩, fun h => by omega⟩
          refine hA.push rfl rfl (by decide) ⟨by rw [List.length_map, List.length_append, hl2, List.length_map, List.length_take]; omega, by simp⟩ fun out' τ' hA' hD' => ?_
          simp only [go_sem, Nat.reduceBEq, Nat.reduceLT, Nat.reduceAdd, Nat.reduceMul, Nat.reduceSub, Nat.reduceLeDiff, decide_true, ne_eq, Nat.reduceEqDiff, not_false_eq_true, Classical.not_not, Int.lt_irrefl, false_implies, g1, g2, g3, g4, g9, g10, g11, g12, g14, g16, g57, g58, g59, g63, g64, g65]
          refine ⟨⟨by omega, by omega⟩, _, ?_, j + 1, out', τ', ?_, hD', rfl, rfl, rfl, rfl, rfl, rfl, rfl, rfl, rfl, rfl, rfl, rfl, rfl, rfl, rfl, rfl, rfl, by omega, rfl⟩
          · omega
          · rw [List.take_add_one, hx']; simpa [eI] using hA'
        · have : j = R.length := by omega
          subst this
          rw [List.take_length, ← hup] at hA
          simp only [go_sem, Nat.reduceBEq, Nat.reduceLT, Nat.reduceAdd, Nat.reduceMul, Nat.reduceSub, Nat.reduceLeDiff, decide_true, ne_eq, Nat.reduceEqDiff, not_false_eq_true, Classical.not_not, Int.lt_irrefl, false_implies, g1, g2, g3, g4, g9, g10, g11, g12, g14, g16, g57, g58, g59, g63, g64, g65]
          refine ⟨⟨by omega, by omega⟩, _, ?_, i + 1, more, τ2, hA, hDj, rfl, rfl, rfl, rfl, rfl, rfl, rfl, rfl, rfl, rfl, rfl, rfl, rfl, by omega, rfl⟩
          omega
      · have : i = T.length := by omega
        subst this
        rw [List.take_length] at hA
        have hAw : Away b τ2 := Away.of hDj look_hd
        have hws : 0 ≤ w * s.st ∧ w * s.st ≤ 1048576 * 16 := ⟨Int.mul_nonneg (by omega) (by omega), Int.mul_le_mul (by omega) hst.2 (by omega) (by omega)⟩
        simp only [go_sem, Nat.reduceBEq, Nat.reduceLT, Nat.reduceAdd, Nat.reduceMul, Nat.reduceSub, Nat.reduceLeDiff, decide_true, ne_eq, Nat.reduceEqDiff, not_false_eq_true, Classical.not_not, Int.lt_irrefl, false_implies, g1, g2, g3, g4, g9, g10, g11, g12, g14, g57, g58, g59, hAw.look]
        have hR := fun ρ (h : get ρ 9 = more) => (Recast.gh (gl := gl) (τ := τ2) (σ := (b, .own (eS s)) :: σ) (k := 9) (ρ := ρ) h hA.gh).trans (Recast.turn (Turn.sub (List.sublist_cons_self _ _)))
        refine ⟨⟨by omega, by omega, by omega⟩, ⟨by omega, by omega⟩, ⟨by omega, by omega⟩, _, _, hR _ rfl, _, ?_, k + 1, by omega, by rw [hstep]; rfl, rfl, rfl, rfl, by rw [hstep]; rfl, by rw [hstep]; rfl, ?_, rfl, rfl⟩
        · omega
        · exact congrArg AV.int (show (l.length : Int) - 1 - k - 1 = (l.length : Int) - 1 - ((k + 1 : Nat) : Int) by omega)
  · have : k = l.length := by omega
    subst this
    simp only [go_sem, Nat.reduceBEq, Nat.reduceLT, Nat.reduceAdd, Nat.reduceMul, Nat.reduceSub, Nat.reduceLeDiff, decide_true, ne_eq, Nat.reduceEqDiff, not_false_eq_true, Classical.not_not, Int.lt_irrefl, false_implies, g1, g2, g3, g4, g9, g10, g11]
    refine ⟨fun h => by omega, fun _ => ?_⟩
    have e : pnext l node letter = (pnUp l letter node l.length).2.2 := rfl
    rw [← e] at hc ⊢
    refine hB.appendL (σ := []) (by simp) rfl rowsIn_list (rows_eI _) (by decide) ⟨by simp; omega, by simp; omega⟩ fun out' τ' hB' _ => ?_
    simp only [go_sem, Nat.reduceBEq, Nat.reduceLT, Nat.reduceAdd, Nat.reduceMul, Nat.reduceSub, Nat.reduceLeDiff, decide_true, ne_eq, Nat.reduceEqDiff, not_false_eq_true, Classical.not_not, Int.lt_irrefl, false_implies]
    simpa using hB'
end Go.Proofs
end
section
/- Contracts: the impl's tables of automata. -/
namespace Go.Proofs
open Go.AX AG
variable {gl : Globs}
set_option maxRecDepth 10000
set_option linter.unusedSimpArgs false

def rowF (g : Nat → Int) : List AV := ((List.range 6).map g).map AV.int
def tabRow (a : Au) (q : Nat) : Nat → Int := fun l => aGo a q l
def tab (a : Au) : AV := .list 6 ((List.range a.nx.length).map fun q => rowF (tabRow a q))
theorem rowF_len (g : Nat → Int) : (rowF g).length = 6 := by simp [rowF]
theorem rowF_congr {g h : Nat → Int} (e : ∀ l < 6, g l = h l) : rowF g = rowF h := by
  unfold rowF; congr 1
  exact List.map_congr_left fun l hl => e l (by simpa using hl)
theorem rowF_set {g : Nat → Int} {j : Nat} {v : Int} (hj : j < 6) : splice (rowF g) j [.int v] = rowF fun l => if l = j then v else g l := by
  unfold rowF
  rw [own_write (f := AV.int) (by simpa using hj)]
  congr 1
  apply List.ext_getElem?
  intro k
  rw [List.getElem?_set]
  by_cases hk : k < 6
  · by_cases h : j = k
    · subst h; simp [hk]
    · have h' : ¬ k = j := fun e => h e.symm
      simp [hk, h, h']
  · have : ¬ j = k := by omega
    simp [hk, this]
theorem letters_place {a l : Int} (hl : 0 ≤ l ∧ l < 6) (h : hasL a l = true) : (letters a)[place a l]? = some l := by
  obtain ⟨n, rfl⟩ := Int.eq_ofNat_of_zero_le hl.1
  have key : ∀ d, n + 1 + d ≤ 6 → ∃ t, lettersUp a (n + 1 + d) = lettersUp a n ++ (n : Int) :: t := by
    intro d
    induction d with
    | zero => intro _; exact ⟨[], by rw [Nat.add_zero, lettersUp_succ, h]; rfl⟩
    | succ d ih =>
      intro hd
      obtain ⟨t, ht⟩ := ih (by omega)
      exact ⟨t ++ if hasL a (n + 1 + d : Nat) then [((n + 1 + d : Nat) : Int)] else [], by rw [← Nat.add_assoc, lettersUp_succ, ht]; simp⟩
  obtain ⟨t, ht⟩ := key (5 - n) (by omega)
  rw [show n + 1 + (5 - n) = 6 by omega] at ht
  unfold letters place
  rw [ht, Int.toNat_natCast, List.getElem?_append_right (Nat.le_refl _), Nat.sub_self]
  rfl
theorem place_of {a l : Int} {i : Nat} (h : (letters a)[i]? = some l) : place a l = i := by
  have hm := letters_in (List.mem_of_getElem? h)
  have h2 := letters_place hm.1 hm.2
  have hs := letters_sorted a
  rw [List.pairwise_iff_getElem] at hs
  obtain ⟨p1, q1⟩ := List.getElem?_eq_some_iff.1 h
  obtain ⟨p2, q2⟩ := List.getElem?_eq_some_iff.1 h2
  rcases Nat.lt_trichotomy (place a l) i with h3 | h3 | h3
  · have := hs _ _ p2 p1 h3; omega
  · exact h3
  · have := hs _ _ p1 p2 h3; omega
def curI (q : Int) (j : Nat) : Nat → Int := fun l => if l < j then q else 0
def curL (a : Au) (row : List Int) (q : Int) (i : Nat) : Nat → Int := fun l => if hasL a.al l = true ∧ place a.al l < i then (row[place a.al l]?).getD 0 else q
def baseT (a : Au) (q : Nat) : List (Nat → Int) := (List.range a.nx.length).map fun q' => if q' < q then tabRow a q' else fun _ => 0
theorem baseT_len (a : Au) (q : Nat) : (baseT a q).length = a.nx.length := by simp [baseT]
theorem baseT_set (a : Au) {q : Nat} (hq : q < a.nx.length) {g : Nat → Int} (hg : rowF g = rowF (tabRow a q)) : (((baseT a q).set q g).map rowF) = (baseT a (q + 1)).map rowF := by
  apply List.ext_getElem?
  intro k
  rw [List.map_set, List.getElem?_set]
  by_cases hk : k < a.nx.length
  · by_cases h : q = k
    · subst h; simp [baseT, hk, hg]
    · rw [if_neg h]
      by_cases h2 : k < q
      · have : k < q + 1 := by omega
        simp [baseT, hk, h2, this]
      · have : ¬ k < q + 1 := by omega
        simp [baseT, hk, h2, this]
  · rw [if_neg (by omega), List.getElem?_eq_none (by simp [baseT]; omega), List.getElem?_eq_none (by simp [baseT]; omega)]

set_option maxHeartbeats 1000000 in
theorem impl_tableOf (a : Au) (ha : autOk a = true) : Pure Tryz.prog gl 81 [.agg (eA a)] (tab a) := by
  obtain ⟨hn1, hn2, _⟩ := autOk_len ha
  have hal := autOk_al ha
  have hL6 : (letters a.al).length ≤ 6 := lettersUp_length _ _
  refine Pure.own (callWp_of (cf := ⟨54, [0, 1, 2, 3, 4, 5, 6, 7, 8, 9, 18, 19, 20, 21, 25, 26, 35, 36, 37, 38], [13], [1, 10, 14, 17]⟩) (rs := [.tmp 2]) Tryz.func81 rfl (by decide) rfl rfl (by simp) ?_)
  simp only [go_sem, Nat.reduceBEq, Nat.reduceLT, Nat.reduceAdd, Nat.reduceMul, Nat.reduceSub, Nat.reduceLeDiff, decide_true, ne_eq, Nat.reduceEqDiff, not_false_eq_true, Classical.not_not, Int.lt_irrefl, false_implies]
  refine ⟨⟨by omega, by omega, by omega⟩, fun b => ?_⟩
  refine (impl_lettersOf a.al (by omega)).call ?_
  simp only [go_sem, Nat.reduceBEq, Nat.reduceLT, Nat.reduceAdd, Nat.reduceMul, Nat.reduceSub, Nat.reduceLeDiff, decide_true, ne_eq, Nat.reduceEqDiff, not_false_eq_true, Classical.not_not, Int.lt_irrefl, false_implies]
  refine LoopWp.by (fun m ρ σ => ∃ q : Nat, get ρ 3 = .msl b 0 a.nx.length a.nx.length ∧ get ρ 4 = ints (letters a.al) ∧ get ρ 18 = intss a.nx ∧ get ρ 19 = .int a.nx.length ∧ get ρ 20 = .int q ∧ q ≤ a.nx.length ∧ σ = [(b, .own ((baseT a q).map rowF).flatten)] ∧ m = a.nx.length - q) a.nx.length ?_ ?_
  · refine ⟨0, rfl, rfl, rfl, rfl, rfl, by omega, ?_, by omega⟩
    have hb0 : (baseT a 0).map rowF = List.replicate a.nx.length (rowF fun _ => 0) := by
      apply List.ext_getElem?
      intro k
      by_cases hk : k < a.nx.length
      · rw [List.getElem?_replicate, if_pos hk]; simp [baseT, hk]
      · rw [List.getElem?_eq_none (by simp [baseT]; omega), List.getElem?_eq_none (by simp; omega)]
    rw [hb0, ← reps_flat]; rfl
  rintro m ρ σ ⟨q, g3, g4, g18, g19, g20, hq, rfl, rfl⟩
  by_cases hlt : q < a.nx.length
  · obtain ⟨row, hrow, hrl, hrin⟩ := autOk_row ha hlt
    simp only [go_sem, Nat.reduceBEq, Nat.reduceLT, Nat.reduceAdd, Nat.reduceMul, Nat.reduceSub, Nat.reduceLeDiff, decide_true, ne_eq, Nat.reduceEqDiff, not_false_eq_true, Classical.not_not, Int.lt_irrefl, false_implies, g3, g4, g18, g19, g20, hrow]
    refine ⟨fun _ => ?_, fun h => by omega⟩
    have hbl := baseT_len a q
    have hset0 : (baseT a q) = (baseT a q).set q (curI q 0) := by
      apply List.ext_getElem?
      intro k
      rw [List.getElem?_set, hbl]
      by_cases hk : q = k
      · subst hk; rw [if_pos rfl, if_pos hlt]; simp [baseT, hlt, curI]; rfl
      · rw [if_neg hk]
    refine LoopWp.by (fun m ρ σ => ∃ j : Nat, get ρ 3 = .msl b 0 a.nx.length a.nx.length ∧ get ρ 4 = ints (letters a.al) ∧ get ρ 5 = .int q ∧ get ρ 6 = ints row ∧ get ρ 18 = intss a.nx ∧ get ρ 19 = .int a.nx.length ∧ get ρ 20 = .int q ∧ get ρ 25 = .int j ∧ j ≤ 6 ∧
      σ = [(b, .own (((baseT a q).set q (curI q j)).map rowF).flatten)] ∧ m = 6 - j) 6 ?_ ?_
    · exact ⟨0, rfl, rfl, rfl, rfl, rfl, rfl, rfl, rfl, by omega, by rw [← hset0], by omega⟩
    rintro m ρ σ ⟨j, g3, g4, g5, g6, g18, g19, g20, g25, hj, rfl, rfl⟩
    by_cases hlt2 : j < 6
    · have hx : ((baseT a q).set q (curI q j))[q]? = some (curI q j) := by rw [List.getElem?_set, if_pos rfl, if_pos (by omega)]
      have hw := rows_cell (f := rowF) (sz := 6) rowF_len (y := fun l => if l = j then (q : Int) else curI q j l) (k := j) (c := [.int q]) hx (by simp; omega) (rowF_set hlt2)
      have hcur : (fun l => if l = j then (q : Int) else curI q j l) = curI q (j + 1) := by
        funext l
        unfold curI
        by_cases h : l = j
        · subst h; simp
        · have : (l < j) ↔ (l < j + 1) := by omega
          simp [h, this]
      rw [hcur, List.set_set] at hw
      have hfl : (((baseT a q).set q (curI q j)).map rowF).flatten.length = a.nx.length * 6 := by rw [flat_len (sz := 6) rowF_len, List.length_set, hbl]
      simp only [go_sem, Nat.reduceBEq, Nat.reduceLT, Nat.reduceAdd, Nat.reduceMul, Nat.reduceSub, Nat.reduceLeDiff, decide_true, ne_eq, Nat.reduceEqDiff, not_false_eq_true, Classical.not_not, Int.lt_irrefl, false_implies, g3, g4, g5, g6, g18, g19, g20, g25, hw, hfl]
      exact ⟨fun _ => ⟨by omega, by omega, by omega, ⟨by omega, by omega⟩, _, by omega, j + 1, rfl, rfl, rfl, rfl, rfl, rfl, rfl, rfl, by omega, rfl, rfl⟩, fun h => by omega⟩
    · have : j = 6 := by omega
      subst this
      have hc0 : rowF (curI q 6) = rowF (curL a row q 0) := rowF_congr fun l hl => by simp [curI, curL, hl]
      have hs0 : ((baseT a q).set q (curI q 6)).map rowF = ((baseT a q).set q (curL a row q 0)).map rowF := by rw [List.map_set, List.map_set, hc0]
      rw [hs0]
      simp only [go_sem, Nat.reduceBEq, Nat.reduceLT, Nat.reduceAdd, Nat.reduceMul, Nat.reduceSub, Nat.reduceLeDiff, decide_true, ne_eq, Nat.reduceEqDiff, not_false_eq_true, Classical.not_not, Int.lt_irrefl, false_implies, g3, g4, g5, g6, g18, g19, g20, g25]
      refine ⟨fun h => by omega, fun _ => ?_⟩
      refine LoopWp.by (fun m ρ σ => ∃ i : Nat, get ρ 3 = .msl b 0 a.nx.length a.nx.length ∧ get ρ 4 = ints (letters a.al) ∧ get ρ 5 = .int q ∧ get ρ 6 = ints row ∧ get ρ 18 = intss a.nx ∧ get ρ 19 = .int a.nx.length ∧ get ρ 20 = .int q ∧ get ρ 35 = ints (letters a.al) ∧ get ρ 36 = .int (letters a.al).length ∧ get ρ 37 = .int i ∧ i ≤ (letters a.al).length ∧
        σ = [(b, .own (((baseT a q).set q (curL a row q i)).map rowF).flatten)] ∧ m = (letters a.al).length - i) (letters a.al).length ?_ ?_
      · exact ⟨0, rfl, rfl, rfl, rfl, rfl, rfl, rfl, rfl, rfl, rfl, by omega, rfl, by omega⟩
      rintro m ρ σ ⟨i, g3, g4, g5, g6, g18, g19, g20, g35, g36, g37, hi, rfl, rfl⟩
      by_cases hlt3 : i < (letters a.al).length
      · obtain ⟨l0, hl0⟩ : ∃ l, (letters a.al)[i]? = some l := ⟨_, List.getElem?_eq_getElem hlt3⟩
        obtain ⟨⟨hl1, hl2⟩, hl3⟩ := letters_in (List.mem_of_getElem? hl0)
        obtain ⟨ln, rfl⟩ := Int.eq_ofNat_of_zero_le hl1
        obtain ⟨v, hv⟩ : ∃ v, row[i]? = some v := ⟨_, List.getElem?_eq_getElem (by omega)⟩
        have hx : ((baseT a q).set q (curL a row q i))[q]? = some (curL a row q i) := by rw [List.getElem?_set, if_pos rfl, if_pos (by omega)]
        have hln : ln < 6 := by omega
        have hw := rows_cell (f := rowF) (sz := 6) rowF_len (y := fun l => if l = ln then v else curL a row q i l) (k := ln) (c := [.int v]) hx (by simp; omega) (rowF_set hln)
        have hcur : rowF (fun l => if l = ln then v else curL a row q i l) = rowF (curL a row q (i + 1)) := rowF_congr fun l hl => by
          unfold curL
          by_cases h : l = ln
          · subst h
            have h5 := place_of hl0
            rw [if_pos rfl, if_pos ⟨hl3, by omega⟩, h5, hv]; rfl
          · rw [if_neg h]
            have : (hasL a.al l = true ∧ place a.al l < i) ↔ (hasL a.al l = true ∧ place a.al l < i + 1) := by
              constructor
              · rintro ⟨h1, h2⟩; exact ⟨h1, by omega⟩
              · rintro ⟨h1, h2⟩
                refine ⟨h1, ?_⟩
                have h3 := letters_place (l := (l : Int)) ⟨by omega, by omega⟩ h1
                by_cases h4 : place a.al l = i
                · rw [h4, hl0, Option.some.injEq] at h3; omega
                · omega
            simp only [this]
        have hs1 : (((baseT a q).set q (curL a row q i)).set q (fun l => if l = ln then v else curL a row q i l)).map rowF = ((baseT a q).set q (curL a row q (i + 1))).map rowF := by
          rw [List.set_set, List.map_set, List.map_set, hcur]
        rw [hs1] at hw
        have hfl : (((baseT a q).set q (curL a row q i)).map rowF).flatten.length = a.nx.length * 6 := by rw [flat_len (sz := 6) rowF_len, List.length_set, hbl]
        simp only [go_sem, Nat.reduceBEq, Nat.reduceLT, Nat.reduceAdd, Nat.reduceMul, Nat.reduceSub, Nat.reduceLeDiff, decide_true, ne_eq, Nat.reduceEqDiff, not_false_eq_true, Classical.not_not, Int.lt_irrefl, false_implies, g3, g4, g5, g6, g18, g19, g20, g35, g36, g37, hl0]
        refine ⟨fun _ => ?_, fun h => by omega⟩
        refine DrawK.text mixed (by kernel_rfl) ?_
        simp only [go_sem, Nat.reduceBEq, Nat.reduceLT, Nat.reduceAdd, Nat.reduceMul, Nat.reduceSub, Nat.reduceLeDiff, decide_true, ne_eq, Nat.reduceEqDiff, not_false_eq_true, Classical.not_not, Int.lt_irrefl, false_implies, g3, g4, g5, g6, g18, g19, g20, g35, g36, g37, hl0, hv, hw, hfl]
        exact ⟨by omega, by omega, by omega, ⟨by omega, by omega⟩, _, by omega, i + 1, rfl, rfl, rfl, rfl, rfl, rfl, rfl, rfl, rfl, rfl, by omega, rfl, rfl⟩
      · have : i = (letters a.al).length := by omega
        subst this
        have hfin : rowF (curL a row q (letters a.al).length) = rowF (tabRow a q) := rowF_congr fun l hl => by
          unfold curL tabRow aGo
          cases hh : hasL a.al l with
          | false => simp
          | true =>
            have := place_lt (a := a.al) (l := l) ⟨by omega, by omega⟩ hh
            rw [if_pos ⟨rfl, this⟩, Int.toNat_natCast, hrow]; rfl
        have hs2 := baseT_set a hlt hfin
        rw [hs2]
        simp only [go_sem, Nat.reduceBEq, Nat.reduceLT, Nat.reduceAdd, Nat.reduceMul, Nat.reduceSub, Nat.reduceLeDiff, decide_true, ne_eq, Nat.reduceEqDiff, not_false_eq_true, Classical.not_not, Int.lt_irrefl, false_implies, g3, g4, g5, g6, g18, g19, g20, g35, g36, g37]
        refine ⟨⟨by omega, by omega⟩, _, ?_, q + 1, rfl, rfl, rfl, rfl, rfl, by omega, rfl, rfl⟩
        omega
  · have : q = a.nx.length := by omega
    subst this
    simp only [go_sem, Nat.reduceBEq, Nat.reduceLT, Nat.reduceAdd, Nat.reduceMul, Nat.reduceSub, Nat.reduceLeDiff, decide_true, ne_eq, Nat.reduceEqDiff, not_false_eq_true, Classical.not_not, Int.lt_irrefl, false_implies, g3, g4, g18, g19, g20]
    have hbn : (baseT a a.nx.length).map rowF = (List.range a.nx.length).map fun q => rowF (tabRow a q) := by
      simp only [baseT, List.map_map]
      refine List.map_congr_left fun q hq => ?_
      have : q < a.nx.length := by simpa using hq
      simp [this]
    rw [hbn]
    have h1 := Gh.rows (gl := gl) (b := b) (c := a.nx.length) (rest := []) (sz := 6) (xs := (List.range a.nx.length).map fun q => rowF (tabRow a q)) (Rows.map (fun q => rowF_len _) _) (by simp)
    rw [List.append_nil, List.length_map, List.length_range] at h1
    exact h1
end Go.Proofs
end
section
/- Contracts: the impl's words of steps. -/
namespace Go.Proofs
open Go.AX AG
variable {gl : Globs}
set_option maxRecDepth 10000
set_option linter.unusedSimpArgs false

theorem impl_letterByte (l : Int) (h : 0 ≤ l ∧ l < 6) : Pure Tryz.prog gl 97 [.int l] (bA (UInt8.ofNat (97 + l.toNat))) := by
  refine callWp_of (cf := ⟨6, [0, 2], [], []⟩) (rs := [.tmp 2]) Tryz.func97 rfl (by decide) rfl rfl (by simp) ?_
  simp only [go_sem, Nat.reduceBEq, Nat.reduceLT, Nat.reduceAdd, Nat.reduceMul, Nat.reduceSub, Nat.reduceLeDiff, decide_true, ne_eq, Nat.reduceEqDiff, not_false_eq_true, Classical.not_not, Int.lt_irrefl, false_implies, byte_letter h]
  exact ⟨⟨by omega, by omega⟩, rfl⟩
def revUp (B : List UInt8) (i : Nat) : List UInt8 := (List.range B.length).map fun k => if k < i ∨ B.length - 1 - k < i then (B[B.length - 1 - k]?).getD 0 else (B[k]?).getD 0
theorem revUp_len (B : List UInt8) (i : Nat) : (revUp B i).length = B.length := by simp [revUp]
theorem revUp_get (B : List UInt8) (i : Nat) {k : Nat} (hk : k < B.length) : (revUp B i)[k]? = some (if k < i ∨ B.length - 1 - k < i then (B[B.length - 1 - k]?).getD 0 else (B[k]?).getD 0) := by simp [revUp, hk]
theorem revUp_zero (B : List UInt8) : revUp B 0 = B := by
  apply List.ext_getElem?
  intro k
  by_cases hk : k < B.length
  · rw [revUp_get B 0 hk, if_neg (by omega), List.getElem?_eq_getElem hk]; rfl
  · rw [List.getElem?_eq_none (by rw [revUp_len]; omega), List.getElem?_eq_none (by omega)]
theorem revUp_end (B : List UInt8) {i : Nat} (hi : B.length - 1 ≤ 2 * i) : revUp B i = B.reverse := by
  apply List.ext_getElem?
  intro k
  by_cases hk : k < B.length
  · rw [revUp_get B i hk, List.getElem?_reverse hk]
    by_cases h : k < i ∨ B.length - 1 - k < i
    · rw [if_pos h, List.getElem?_eq_getElem (by omega)]; rfl
    · rw [if_neg h]
      have : B.length - 1 - k = k := by omega
      rw [this, List.getElem?_eq_getElem hk]; rfl
  · rw [List.getElem?_eq_none (by rw [revUp_len]; omega), List.getElem?_eq_none (by simp; omega)]
theorem revUp_swap (B : List UInt8) {i : Nat} (hi : i < B.length - 1 - i) : ((revUp B i).set i ((B[B.length - 1 - i]?).getD 0)).set (B.length - 1 - i) ((B[i]?).getD 0) = revUp B (i + 1) := by
  apply List.ext_getElem?
  intro k
  rw [List.getElem?_set, List.getElem?_set, List.length_set, revUp_len]
  by_cases hk : k < B.length
  · rw [revUp_get B i hk, revUp_get B (i + 1) hk]
    by_cases h1 : B.length - 1 - i = k
    · subst h1
      have e : B.length - 1 - (B.length - 1 - i) = i := by omega
      rw [if_pos rfl, if_pos hk, if_pos (by omega), e]
    · rw [if_neg h1]
      by_cases h2 : i = k
      · subst h2; rw [if_pos rfl, if_pos hk, if_pos (by omega)]
      · rw [if_neg h2]
        by_cases h3 : k < i ∨ B.length - 1 - k < i
        · rw [if_pos h3, if_pos (by omega)]
        · rw [if_neg h3, if_neg (by omega)]
  · rw [if_neg (by omega), if_neg (by omega), List.getElem?_eq_none (by rw [revUp_len]; omega), List.getElem?_eq_none (by rw [revUp_len]; omega)]
theorem lib_Reverse (B : List UInt8) (hB : B.length ≤ 1073741824) (b c : Nat) (rest : List AV) : CallWp Tryz.prog gl 98 [.msl b 0 B.length c] [(b, .own (B.map bA ++ rest))] fun _ σ => σ = [(b, .own (B.reverse.map bA ++ rest))] := by
  refine callWp_of (cf := ⟨28, [0, 2, 3, 9], [], []⟩) (rs := []) Tryz.func98 rfl (by decide) rfl rfl (by simp) ?_
  simp only [go_sem, Nat.reduceBEq, Nat.reduceLT, Nat.reduceAdd, Nat.reduceMul, Nat.reduceSub, Nat.reduceLeDiff, decide_true, ne_eq, Nat.reduceEqDiff, not_false_eq_true, Classical.not_not, Int.lt_irrefl, false_implies]
  refine ⟨⟨by omega, by omega⟩, ?_⟩
  refine LoopWp.by (fun m ρ σ => ∃ i : Nat, get ρ 0 = .msl b 0 B.length c ∧ get ρ 2 = .int i ∧ get ρ 3 = .int ((B.length : Int) - 1 - i) ∧ σ = [(b, .own ((revUp B i).map bA ++ rest))] ∧ i ≤ B.length ∧ m = B.length - i) B.length ?_ ?_
  · exact ⟨0, rfl, rfl, by simp [AX.get], by rw [revUp_zero], by omega, by omega⟩
  rintro m ρ σ ⟨i, g0, g2, g3, rfl, hi, rfl⟩
  by_cases hlt : (i : Int) < (B.length : Int) - 1 - i
  · have e : ((B.length : Int) - 1 - i).toNat = B.length - 1 - i := by omega
    have hl := revUp_len B i
    have h1 := revUp_get B i (k := i) (by omega)
    have h2 := revUp_get B i (k := B.length - 1 - i) (by omega)
    have e2 : B.length - 1 - (B.length - 1 - i) = i := by omega
    rw [if_neg (by omega)] at h1 h2
    have r1 := own_read_app (f := bA) (rest := rest) h1
    have r2 := own_read_app (f := bA) (rest := rest) h2
    have w1 := own_write_app (f := bA) (rest := rest) (l := revUp B i) (i := i) (y := (B[B.length - 1 - i]?).getD 0) (by omega)
    have w2 := own_write_app (f := bA) (rest := rest) (l := (revUp B i).set i ((B[B.length - 1 - i]?).getD 0)) (i := B.length - 1 - i) (y := (B[i]?).getD 0) (by simp; omega)
    rw [revUp_swap B (by omega)] at w2
    have c1 : ∀ c, cellsOf (bA c) = some [bA c] := fun _ => rfl
    have hl1 : ((revUp B i).map bA ++ rest).length = B.length + rest.length := by simp [hl]
    have hl2 : (((revUp B i).set i ((B[B.length - 1 - i]?).getD 0)).map bA ++ rest).length = B.length + rest.length := by simp [hl]
    simp only [go_sem, Nat.reduceBEq, Nat.reduceLT, Nat.reduceAdd, Nat.reduceMul, Nat.reduceSub, Nat.reduceLeDiff, decide_true, ne_eq, Nat.reduceEqDiff, not_false_eq_true, Classical.not_not, Int.lt_irrefl, false_implies, g0, g2, g3]
    refine ⟨fun _ => ?_, fun h => absurd hlt h⟩
    refine DrawK.text mixed (by kernel_rfl) ?_
    simp only [go_sem, Nat.reduceBEq, Nat.reduceLT, Nat.reduceAdd, Nat.reduceMul, Nat.reduceSub, Nat.reduceLeDiff, decide_true, ne_eq, Nat.reduceEqDiff, not_false_eq_true, Classical.not_not, Int.lt_irrefl, false_implies, g0, g2, g3, e, r1, r2, w1, w2, c1, List.length_append, hl, List.length_set]
    refine ⟨⟨by omega, by omega⟩, by omega, by omega, by omega, by omega, by omega, ⟨by omega, by omega⟩, by omega, ⟨by omega, by omega⟩, ⟨by omega, by omega⟩, _, ?_, i + 1, rfl, rfl, ?_, rfl, by omega, rfl⟩
    · omega
    · exact congrArg AV.int (show (B.length : Int) - 1 - i - 1 = (B.length : Int) - 1 - ((i + 1 : Nat) : Int) by omega)
  · have h3 := revUp_end B (i := i) (by omega)
    rw [h3]
    simp only [go_sem, Nat.reduceBEq, Nat.reduceLT, Nat.reduceAdd, Nat.reduceMul, Nat.reduceSub, Nat.reduceLeDiff, decide_true, ne_eq, Nat.reduceEqDiff, not_false_eq_true, Classical.not_not, Int.lt_irrefl, false_implies, g0, g2, g3]
    exact fun h => absurd h hlt
theorem lib_Reverse0 (out : AV) (h : out = .nils ∨ out = .mt) : CallWp Tryz.prog gl 98 [out] [] fun _ σ => σ = [] := by
  rcases h with rfl | rfl
  all_goals
    refine callWp_of (cf := ⟨28, [0, 2, 3, 9], [], []⟩) (rs := []) Tryz.func98 rfl (by decide) rfl rfl (by simp) ?_
    simp only [go_sem, Nat.reduceBEq, Nat.reduceLT, Nat.reduceAdd, Nat.reduceMul, Nat.reduceSub, Nat.reduceLeDiff, decide_true, ne_eq, Nat.reduceEqDiff, not_false_eq_true, Classical.not_not, Int.lt_irrefl, false_implies]
    refine ⟨⟨by omega, by omega⟩, ?_⟩
    refine LoopWp.by (fun m ρ σ => get ρ 2 = .int 0 ∧ get ρ 3 = .int (-1) ∧ σ = []) 0 ⟨rfl, rfl, rfl⟩ ?_
    rintro m ρ σ ⟨g2, g3, rfl⟩
    simp only [go_sem, Nat.reduceBEq, Nat.reduceLT, Nat.reduceAdd, Nat.reduceMul, Nat.reduceSub, Nat.reduceLeDiff, decide_true, ne_eq, Nat.reduceEqDiff, not_false_eq_true, Classical.not_not, Int.lt_irrefl, false_implies, g2, g3]
    exact fun h => by omega
theorem lib_ReverseB (B : List UInt8) (hB : B.length ≤ 1073741824) (out : AV) (τ : Store) (h : Buf 1 (B.map eC) out τ) : CallWp Tryz.prog gl 98 [out] τ fun _ σ => Buf 1 (B.reverse.map eC) out σ := by
  rcases h with ⟨h0, h1, rfl⟩ | ⟨b, c, rest, rfl, rfl, h1, h2, h3⟩
  · have : B = [] := List.map_eq_nil_iff.1 h0
    subst this
    exact (lib_Reverse0 out h1).mono fun _ _ hs => .inl ⟨rfl, h1, hs⟩
  · rw [flat_eC, List.length_map]
    refine (lib_Reverse B hB b c rest).mono fun _ σ hs => .inr ⟨b, c, rest, ?_, ?_, ?_, ?_, rows_eC _⟩
    · simp
    · rw [hs, flat_eC]
    · simpa using h1
    · simpa using h2
@[go_sem] def eSt (s : St) : List AV := [.int s.pa, .int s.le, ints s.nd]
theorem impl_pathWord (st : List St) (ws : List (List Int)) (h : Pth st ws) (hl : st.length ≤ 1073741824) (w : List Int) (hw : ws[st.length - 1]? = some w) (hwl : w.length < 1073741824) : Pure Tryz.prog gl 94 [.list 3 (st.map eSt)] (.str (txt w)) := by
  have hlen := h.len
  have hpos : 0 < st.length := by have := (List.getElem?_eq_some_iff.1 hw).1; omega
  refine Pure.of (callWp_of (cf := ⟨32, [0, 2, 3, 4, 13], [27], []⟩) (rs := [.tmp 2]) Tryz.func94 rfl (by decide) rfl rfl (by simp) ?_)
  simp only [go_sem, Nat.reduceBEq, Nat.reduceLT, Nat.reduceAdd, Nat.reduceMul, Nat.reduceSub, Nat.reduceLeDiff, decide_true, ne_eq, Nat.reduceEqDiff, not_false_eq_true, Classical.not_not, Int.lt_irrefl, false_implies]
  refine ⟨⟨by omega, by omega⟩, ?_⟩
  refine LoopWp.by (fun m ρ σ => ∃ (i : Nat) (out : AV) (wi u : List Int), Buf 1 ((txt u).reverse.map eC) out σ ∧ get ρ 0 = .list 3 (st.map eSt) ∧ get ρ 3 = out ∧ get ρ 4 = .int i ∧ i < st.length ∧ ws[i]? = some wi ∧ w = wi ++ u ∧ m = i) (st.length - 1) ?_ ?_
  · refine ⟨st.length - 1, .nils, w, [], Buf.nil 1, rfl, rfl, ?_, by omega, hw, by simp, rfl⟩
    exact congrArg AV.int (show (st.length : Int) - 1 = ((st.length - 1 : Nat) : Int) by omega)
  rintro m ρ σ ⟨i, out, wi, u, hB, g0, g3, g4, hi, hwi, hwu, rfl⟩
  obtain ⟨s, hs⟩ : ∃ s, st[m]? = some s := ⟨_, List.getElem?_eq_getElem hi⟩
  have hul : u.length ≤ w.length := by rw [hwu]; simp
  have htl : ((txt u).reverse.map eC).length = u.length := by simp [txt]
  rcases Nat.eq_zero_or_pos m with rfl | hm
  · obtain ⟨hpa, h0⟩ := h.root s hs
    rw [h0] at hwi; cases hwi
    rw [List.nil_append] at hwu
    subst hwu
    have hpa' : ¬ 0 ≤ s.pa := by omega
    simp only [go_sem, Nat.reduceBEq, Nat.reduceLT, Nat.reduceAdd, Nat.reduceMul, Nat.reduceSub, Nat.reduceLeDiff, decide_true, ne_eq, Nat.reduceEqDiff, not_false_eq_true, Classical.not_not, Int.lt_irrefl, false_implies, g0, g3, g4, Int.toNat_zero, hs]
    refine ⟨fun h => absurd h hpa', fun _ => ?_⟩
    refine (lib_ReverseB (txt w).reverse (by simp [txt]; omega) out σ hB).mono fun r σ' hB' => ?_
    rw [List.reverse_reverse] at hB'
    simp only [go_sem, Nat.reduceBEq, Nat.reduceLT, Nat.reduceAdd, Nat.reduceMul, Nat.reduceSub, Nat.reduceLeDiff, decide_true, ne_eq, Nat.reduceEqDiff, not_false_eq_true, Classical.not_not, Int.lt_irrefl, false_implies, g0, g3, g4]
    refine hB'.str (σ := []) (by simp) (by simp only [go_sem, Nat.reduceBEq, Nat.reduceLT, Nat.reduceAdd, Nat.reduceMul, Nat.reduceSub, Nat.reduceLeDiff, decide_true, ne_eq, Nat.reduceEqDiff, not_false_eq_true, Classical.not_not, Int.lt_irrefl, false_implies]) ?_
    simp only [go_sem, Nat.reduceBEq, Nat.reduceLT, Nat.reduceAdd, Nat.reduceMul, Nat.reduceSub, Nat.reduceLeDiff, decide_true, ne_eq, Nat.reduceEqDiff, not_false_eq_true, Classical.not_not, Int.lt_irrefl, false_implies]
    exact Sees.refl _
  · obtain ⟨p, wp, hp1, hp2, hp3, hp4⟩ := h.step m s hm hs
    have hls := h.lets m s hs
    rw [hp4, Option.some.injEq] at hwi
    simp only [go_sem, Nat.reduceBEq, Nat.reduceLT, Nat.reduceAdd, Nat.reduceMul, Nat.reduceSub, Nat.reduceLeDiff, decide_true, ne_eq, Nat.reduceEqDiff, not_false_eq_true, Classical.not_not, Int.lt_irrefl, false_implies, g0, g3, g4, hs]
    refine ⟨fun _ => ?_, fun h => absurd h (by omega)⟩
    refine (impl_letterByte s.le hls).call ?_
    simp only [go_sem, Nat.reduceBEq, Nat.reduceLT, Nat.reduceAdd, Nat.reduceMul, Nat.reduceSub, Nat.reduceLeDiff, decide_true, ne_eq, Nat.reduceEqDiff, not_false_eq_true, Classical.not_not, Int.lt_irrefl, false_implies, g0, g3, g4]
    refine hB.push (σ := []) (by simp) rfl (by decide) rfl ⟨by rw [htl]; omega, by simp⟩ fun out' τ' hB' _ => ?_
    simp only [go_sem, Nat.reduceBEq, Nat.reduceLT, Nat.reduceAdd, Nat.reduceMul, Nat.reduceSub, Nat.reduceLeDiff, decide_true, ne_eq, Nat.reduceEqDiff, not_false_eq_true, Classical.not_not, Int.lt_irrefl, false_implies, g0, g3, g4, hs]
    refine ⟨_, hp2, p, out', wp, s.le :: u, ?_, rfl, rfl, by rw [← hp1]; rfl, by omega, hp3, by rw [hwu, ← hwi]; simp, rfl⟩
    simpa [txt, eC] using hB'
end Go.Proofs
end
section
/- Contracts: the impl's search, a visit. -/
namespace Go.Proofs
open Go.AX AG
variable {gl : Globs}
set_option maxRecDepth 10000
set_option linter.unusedSimpArgs false

def stS (bT bS bs N : Nat) (out : AV) (seen : List Bool) (τ : Store) : Store := (bT, .own [out]) :: (bS, .own [.msl bs 0 N N]) :: (bs, .own (seen.map AV.bool)) :: τ
def addSt (st : List St) (pa le : Int) (f : List Int) : List St := if f = [] then st else st ++ [⟨pa, le, f⟩]

set_option maxHeartbeats 1000000 in
theorem impl_visit (N : Nat) (hN : N ≤ 1048576) (g : Int → Bool) (gf : Go.FuncId) (gc : List AV) (hgoal : ∀ n : Int, 0 ≤ n ∧ n < N → Pure Tryz.prog gl gf (.int n :: gc) (.bool (g n)))
    (seen : List Bool) (hs : seen.length = N) (nodes : List Int) (hn : ∀ n ∈ nodes, 0 ≤ n ∧ n < N) (hnl : nodes.length ≤ 8589934592) (pa le : Int) (st : List St) (hst : st.length ≤ N) (out : AV) (τ : Store) (hA : Acc 3 (st.map eSt) out τ)
    (bT bS bs : Nat) (n1 : bT ≠ bS) (n2 : bT ≠ bs) (n3 : bS ≠ bs) (aT : Away bT τ) (aS : Away bS τ) (aB : Away bs τ) :
    CallWp Tryz.prog gl 93 [.int pa, .int le, ints nodes, .ptr bS 0, .cptr [.clos (.func gf) [] gc], .ptr bT 0] (stS bT bS bs N out seen τ) fun r σ => ∃ out' τ', r = .bool ((vis seen nodes).2.any g) ∧
      Acc 3 ((addSt st pa le (vis seen nodes).2).map eSt) out' τ' ∧ Away bT τ' ∧ Away bS τ' ∧ Away bs τ' ∧ σ = stS bT bS bs N out' (vis seen nodes).1 τ' := by
  have f1 := beq_false_of_ne n1
  have f2 := beq_false_of_ne n2
  have f3 := beq_false_of_ne n3
  have f4 := beq_false_of_ne n1.symm
  have f5 := beq_false_of_ne n2.symm
  have f6 := beq_false_of_ne n3.symm
  refine CallWp.post (callWp_of (cf := ⟨50, [0, 1, 2, 3, 4, 5, 9, 10, 11, 13, 14, 15, 16, 17, 24, 41], [], []⟩) (rs := [.tmp 9]) Tryz.func93 rfl (by decide) rfl rfl (by simp) ?_)
  simp only [go_sem, Nat.reduceBEq, Nat.reduceLT, Nat.reduceAdd, Nat.reduceMul, Nat.reduceSub, Nat.reduceLeDiff, decide_true, ne_eq, Nat.reduceEqDiff, not_false_eq_true, Classical.not_not, Int.lt_irrefl, false_implies]
  refine LoopWp.by (fun m ρ σ => ∃ (k : Nat) (f : AV) (τf : Store), Acc 1 ((visUp seen nodes k).2.map eI) f τf ∧ Dj τf (stS bT bS bs N out (visUp seen nodes k).1 τ) ∧ get ρ 0 = .int pa ∧ get ρ 1 = .int le ∧ get ρ 3 = .ptr bS 0 ∧ get ρ 4 = .cptr [.clos (.func gf) [] gc] ∧ get ρ 5 = .ptr bT 0 ∧
    get ρ 10 = f ∧ get ρ 11 = .bool ((visUp seen nodes k).2.any g) ∧ get ρ 14 = ints nodes ∧ get ρ 15 = .int nodes.length ∧ get ρ 16 = .int k ∧ k ≤ nodes.length ∧ σ = τf ++ stS bT bS bs N out (visUp seen nodes k).1 τ ∧ m = nodes.length - k) nodes.length ?_ ?_
  · exact ⟨0, .nils, [], Acc.nil 1, Dj.nil _, rfl, rfl, rfl, rfl, rfl, rfl, rfl, rfl, rfl, rfl, by omega, rfl, by omega⟩
  rintro m ρ σ ⟨k, f, τf, hF, hD, g0, g1, g3, g4, g5, g10, g11, g14, g15, g16, hk, rfl, rfl⟩
  have hok := visUp_ok (seen0 := seen) (nodes := nodes) (by rw [hs]; exact hn) k hk
  have hfl : (visUp seen nodes k).2.length ≤ N := nodup_len N _ hok.nodup fun x hx => hn x (List.mem_of_mem_take ((hok.fresh x).1 hx).1)
  have hsl := hok.len
  have aT' : Away bT τf := Away.of hD (o := .own [out]) look_hd
  have aS' : Away bS τf := Away.of hD (o := .own [.msl bs 0 N N]) (by rw [stS, look_cons_ne f4, look_hd])
  have aB' : Away bs τf := Away.of hD (o := .own ((visUp seen nodes k).1.map AV.bool)) (by rw [stS, look_cons_ne f5, look_cons_ne f6, look_hd])
  by_cases hlt : k < nodes.length
  · obtain ⟨n, hnk⟩ : ∃ n, nodes[k]? = some n := ⟨_, List.getElem?_eq_getElem hlt⟩
    have hnr := hn n (List.mem_of_getElem? hnk)
    obtain ⟨nn, hnn⟩ := Int.eq_ofNat_of_zero_le hnr.1
    have hup := visUp_succ (seen := seen) hnk
    have hok2 := visUp_ok (seen0 := seen) (nodes := nodes) (by rw [hs]; exact hn) (k + 1) (by omega)
    rw [hup] at hok2
    generalize hst' : visUp seen nodes k = V at *
    obtain ⟨S, F⟩ := V
    simp only at hfl hsl aT' aS' aB' hD hF g11
    obtain ⟨x, hx⟩ : ∃ x, S[nn]? = some x := ⟨_, List.getElem?_eq_getElem (by omega)⟩
    have hrd := own_read (f := AV.bool) hx
    subst hnn
    unfold stS at hD
    unfold stS
    simp only [go_sem, Nat.reduceBEq, Nat.reduceLT, Nat.reduceAdd, Nat.reduceMul, Nat.reduceSub, Nat.reduceLeDiff, decide_true, ne_eq, Nat.reduceEqDiff, not_false_eq_true, Classical.not_not, Int.lt_irrefl, false_implies, g0, g1, g3, g4, g5, g10, g11, g14, g15, g16, hnk, aS'.look, aB'.look, f1, f2, f3, f4, f5, f6, hrd, List.length_map]
    refine ⟨fun _ => ⟨by omega, by omega, ?_⟩, fun h => absurd (by omega) h⟩
    have hvf : visF (S, F) (nn : Int) = bif x then (S, F) else (S.set nn true, F ++ [(nn : Int)]) := by simp [visF, hx]
    refine ⟨fun hxt => ?_, fun hxf => ?_⟩
    · subst hxt
      rw [hvf] at hup
      refine ⟨⟨by omega, by omega⟩, _, ?_, k + 1, f, τf, by rw [hup]; exact hF, by rw [hup]; exact hD, rfl, rfl, rfl, rfl, rfl, rfl, by rw [hup]; rfl, rfl, rfl, rfl, by omega, by rw [hup]; rfl, rfl⟩
      omega
    · subst hxf
      rw [hvf] at hup
      have hwr := own_write (f := AV.bool) (l := S) (i := nn) (y := true) (by omega)
      refine ⟨by omega, by omega, ?_⟩
      rw [hwr, aB'.set]
      simp only [setAt, f5, f6, BEq.rfl, cond_true, cond_false]
      refine hF.push (σ := stS bT bS bs N out (S.set nn true) τ) rfl rfl (by decide) ⟨by simp; omega, by simp⟩ fun f2' τ2 hF2 hD2 => ?_
      have hg := hgoal nn hnr
      have hD2' := hD2
      unfold stS at hD2'
      have hany : (F ++ [(nn : Int)]).any g = (F.any g || g nn) := by simp
      simp only [go_sem, Nat.reduceBEq, Nat.reduceLT, Nat.reduceAdd, Nat.reduceMul, Nat.reduceSub, Nat.reduceLeDiff, decide_true, ne_eq, Nat.reduceEqDiff, not_false_eq_true, Classical.not_not, Int.lt_irrefl, false_implies, g0, g1, g3, g4, g5, g10, g11, g14, g15, g16]
      refine ⟨fun h1 => ?_, fun h1 => ?_⟩
      · refine ⟨⟨by omega, by omega⟩, _, ?_, k + 1, f2', τ2, by rw [hup]; simpa [eI] using hF2, by rw [hup]; exact hD2, rfl, rfl, rfl, rfl, rfl, rfl, by rw [hup]; simp only [cond_false, hany, h1, Bool.true_or]; rfl, rfl, rfl, rfl, by omega, by rw [hup]; rfl, rfl⟩
        omega
      · refine hg.call ?_
        simp only [go_sem, Nat.reduceBEq, Nat.reduceLT, Nat.reduceAdd, Nat.reduceMul, Nat.reduceSub, Nat.reduceLeDiff, decide_true, ne_eq, Nat.reduceEqDiff, not_false_eq_true, Classical.not_not, Int.lt_irrefl, false_implies, g0, g1, g3, g4, g5, g10, g11, g14, g15, g16]
        refine ⟨⟨by omega, by omega⟩, _, ?_, k + 1, f2', τ2, by rw [hup]; simpa [eI] using hF2, by rw [hup]; exact hD2, rfl, rfl, rfl, rfl, rfl, rfl, by rw [hup]; simp only [cond_false, hany, h1, Bool.false_or]; rfl, rfl, rfl, rfl, by omega, by rw [hup]; rfl, rfl⟩
        omega
  · have : k = nodes.length := by omega
    subst this
    rw [visUp_full] at *
    generalize vis seen nodes = V at *
    obtain ⟨S, F⟩ := V
    simp only at hfl hsl aT' aS' aB' hD hF g11
    have hnil : F = [] → ∃ τ_1, Turn gl (τf ++ stS bT bS bs N out S τ) τ_1 ∧ ∃ out' τ', Acc 3 ((addSt st pa le F).map eSt) out' τ' ∧ Away bT τ' ∧ Away bS τ' ∧ Away bs τ' ∧ τ_1 = stS bT bS bs N out' S τ' := fun h =>
      ⟨_, Turn.sub (List.sublist_append_right _ _), out, τ, by rw [addSt, if_pos h]; exact hA, aT, aS, aB, rfl⟩
    rcases hF with ⟨h0, rfl | rfl, rfl⟩ | ⟨bf, rfl, rfl⟩
    · have hF0 : F = [] := List.map_eq_nil_iff.1 h0
      simp only [go_sem, Nat.reduceBEq, Nat.reduceLT, Nat.reduceAdd, Nat.reduceMul, Nat.reduceSub, Nat.reduceLeDiff, decide_true, ne_eq, Nat.reduceEqDiff, not_false_eq_true, Classical.not_not, Int.lt_irrefl, false_implies, g0, g1, g3, g4, g5, g10, g11, g14, g15, g16]
      exact ⟨fun h => by omega, fun _ => hnil hF0⟩
    · have hF0 : F = [] := List.map_eq_nil_iff.1 h0
      simp only [go_sem, Nat.reduceBEq, Nat.reduceLT, Nat.reduceAdd, Nat.reduceMul, Nat.reduceSub, Nat.reduceLeDiff, decide_true, ne_eq, Nat.reduceEqDiff, not_false_eq_true, Classical.not_not, Int.lt_irrefl, false_implies, g0, g1, g3, g4, g5, g10, g11, g14, g15, g16]
      exact hnil hF0
    · have p1 := aT' (bf, .tail ((F.map eI).length * 1)) (by simp)
      have p2 := aS' (bf, .tail ((F.map eI).length * 1)) (by simp)
      have p3 := aB' (bf, .tail ((F.map eI).length * 1)) (by simp)
      have f7 := beq_false_of_ne p1
      have f8 := beq_false_of_ne p2
      have f9 := beq_false_of_ne p3
      have hfbf : fresh bf τ := by
        have := hD (bf, .tail ((F.map eI).length * 1)) (by simp)
        exact this.2.2.2
      unfold stS at *
      simp only [go_sem, Nat.reduceBEq, Nat.reduceLT, Nat.reduceAdd, Nat.reduceMul, Nat.reduceSub, Nat.reduceLeDiff, decide_true, ne_eq, Nat.reduceEqDiff, not_false_eq_true, Classical.not_not, Int.lt_irrefl, false_implies, g0, g1, g3, g4, g5, g10, g11, g14, g15, g16, f1, f2, f3, f4, f5, f6, f7, f8, f9]
      refine ⟨fun h0 => ?_, fun h0 => ?_⟩
      · have hF0 : F ≠ [] := fun e => by rw [e] at h0; simp at h0
        have hadd : addSt st pa le F = st ++ [⟨pa, le, F⟩] := by rw [addSt, if_neg hF0]
        refine hA.pushB (τp := [(bf, .tail F.length), (bT, .own [out]), (bS, .own [.msl bs 0 N N]), (bs, .own (S.map AV.bool))]) (σ := []) (fun p hp => ?_) (by simp) rfl (by decide) ⟨by simp; omega, by simp⟩ fun out' τ' hA' hD' => ?_
        · simp only [List.mem_cons, List.not_mem_nil, or_false] at hp
          rcases hp with rfl | rfl | rfl | rfl
          · exact hfbf
          · exact aT.fresh
          · exact aS.fresh
          · exact aB.fresh
        obtain ⟨out2, hA2, hS2⟩ := hA'.re (gl := gl) (σ := (bT, .own [out']) :: (bS, .own [.msl bs 0 N N]) :: (bs, .own (S.map AV.bool)) :: τ') (row' := eSt ⟨pa, le, F⟩) ⟨Sees.refl _, Sees.refl _, (Acc.vec bf 1 (F.map eI)).sees, trivial⟩
        have a1 : Away bT τ' := hD'.away (b := bT) (o := .own [out]) (by simp)
        have a2 : Away bS τ' := hD'.away (b := bS) (o := .own [.msl bs 0 N N]) (by simp)
        have a3 : Away bs τ' := hD'.away (b := bs) (o := .own (S.map AV.bool)) (by simp)
        have hc := hA'.cells
        simp only [go_sem, Nat.reduceBEq, Nat.reduceLT, Nat.reduceAdd, Nat.reduceMul, Nat.reduceSub, Nat.reduceLeDiff, decide_true, ne_eq, Nat.reduceEqDiff, not_false_eq_true, Classical.not_not, Int.lt_irrefl, false_implies, g0, g1, g3, g4, g5, g10, g11, g14, g15, g16, f1, f2, f3, f4, f5, f6, f7, f8, f9, a1.look, a1.set, hc]
        refine ⟨_, ?_, out2, τ', by rw [hadd, List.map_append]; exact hA2, a1, a2, a3, rfl⟩
        refine Turn.trans ?_ (Turn.see (cs := [out']) (cs' := [out2]) ⟨hS2, trivial⟩)
        refine Turn.trans (Turn.sub (τ := τ' ++ [(bT, .own [out']), (bS, .own [.msl bs 0 N N]), (bs, .own (S.map AV.bool))]) (List.Sublist.append (List.Sublist.refl τ') (List.sublist_cons_self _ _))) (Turn.perm ?_)
        exact (List.perm_append_comm (l₁ := [(bT, AObj.own [out']), (bS, .own [.msl bs 0 N N]), (bs, .own (S.map AV.bool))]) (l₂ := τ'))
      · have hF0 : F = [] := List.eq_nil_of_length_eq_zero (by omega)
        have := hnil hF0
        simpa using this
end Go.Proofs
end
section
/- Contracts: the impl's search. -/
namespace Go.Proofs
open Go.AX AG
variable {gl : Globs}
set_option maxRecDepth 10000
set_option linter.unusedSimpArgs false

set_option maxHeartbeats 2000000 in
theorem impl_firstPath (y : AG.Sys) (nx : Int → Int → List Int) (g : Int → Bool) (N : Nat) (start : List Int) (hy : SysOk y nx g N start) (hN : 0 < N ∧ N ≤ 1048576) (hll : y.ls.length ≤ 6) (hsl : start.length ≤ 1048576) (nf : Go.FuncId) (nc : List AV) (gf : Go.FuncId) (gc : List AV)
    (hnext : ∀ (n l : Int) (xs : List Int) (out : AV) (τ : Store), 0 ≤ n ∧ n < N → l ∈ y.ls → Buf 1 (xs.map eI) out τ → xs.length ≤ 4294967296 → CallWp Tryz.prog gl nf (.int n :: .int l :: out :: nc) τ fun r σ => Buf 1 ((xs ++ nx n l).map eI) r σ)
    (hnx : ∀ n l, (0 ≤ n ∧ n < (N : Int)) → l ∈ y.ls → (nx n l).length ≤ 4096)
    (hgoal : ∀ n : Int, 0 ≤ n ∧ n < N → Pure Tryz.prog gl gf (.int n :: gc) (.bool (g n))) :
    Pure Tryz.prog gl 85 [.int N, ints start, ints y.ls, .clos (.func nf) [] nc, .clos (.func gf) [] gc] (resW (firstOf y)) := by
  refine Pure.of (callWp_of (cf := ⟨63, [0, 1, 2, 3, 4, 9, 10, 11, 12, 13, 14, 15, 17, 18, 20, 26, 30, 33, 34, 35, 36, 43, 44, 45, 46, 59], [22], [9]⟩) (rs := [.tmp 10, .tmp 11]) Tryz.func85 rfl (by decide) rfl rfl (by simp) ?_)
  simp only [go_sem, Nat.reduceBEq, Nat.reduceLT, Nat.reduceAdd, Nat.reduceMul, Nat.reduceSub, Nat.reduceLeDiff, decide_true, ne_eq, Nat.reduceEqDiff, not_false_eq_true, Classical.not_not, Int.lt_irrefl, false_implies]
  refine ⟨⟨by omega, by omega, by omega⟩, fun bs bS ⟨m1, m2⟩ bT ⟨⟨m3, m4⟩, m5, m6⟩ => ?_⟩
  have f1 := beq_false_of_ne m3
  have f2 := beq_false_of_ne m5
  have f3 := beq_false_of_ne m1
  have f4 := beq_false_of_ne m4
  have f5 := beq_false_of_ne m6
  have f6 := beq_false_of_ne m2
  have hS0 : [(bT, AObj.own [AV.raw (Value.slice none 0 0)]), (bS, AObj.own [AV.raw (Value.slice (some { block := bs, off := 0 }) N N)]), (bs, AObj.own (reps N [AV.raw (Value.bool false)]))] = stS bT bS bs N .nils (List.replicate N false) [] := by
    unfold stS; rw [reps_one, List.map_replicate]
  rw [hS0]
  have hvis0 := impl_visit (gl := gl) N hN.2 g gf gc hgoal (List.replicate N false) (by simp) start hy.st (by omega) (-1) 0 [] (by simp) .nils [] (Acc.nil 3) bT bS bs m3 m5 m1 (fun p hp => by cases hp) (fun p hp => by cases hp) (fun p hp => by cases hp)
  refine hvis0.mono ?_
  rintro r σ ⟨out, τ, rfl, hA, aT, aS, aB, rfl⟩
  have hok0 := vis_ok (seen0 := List.replicate N false) (nodes := start) (by simpa using hy.st)
  have hfm : ∀ n, n ∈ (vis (List.replicate N false) start).2 ↔ n ∈ start := fun n => by
    rw [hok0.fresh]
    refine ⟨fun h => h.1, fun h => ⟨h, ?_⟩⟩
    have := hy.st n h
    rw [List.getElem?_replicate, if_pos (by omega)]
  cases hany : (vis (List.replicate N false) start).2.any g
  case true =>
    simp only [go_sem, Nat.reduceBEq, Nat.reduceLT, Nat.reduceAdd, Nat.reduceMul, Nat.reduceSub, Nat.reduceLeDiff, decide_true, ne_eq, Nat.reduceEqDiff, not_false_eq_true, Classical.not_not, Int.lt_irrefl, false_implies, f1]
    obtain ⟨n, hn, hgn⟩ := List.any_eq_true.1 hany
    rw [first_nil hy ((hfm n).1 hn) hgn]
    exact Sees.refl _
  case false =>
    have hng : ∀ n ∈ start, g n = false := fun n hn => by
      have := List.any_eq_false.1 hany n ((hfm n).2 hn)
      simpa using this
    obtain ⟨hf0, hB0⟩ := Bfs.init hy hN.1 hng hok0
    have hadd : addSt [] (-1) 0 (vis (List.replicate N false) start).2 = [⟨-1, 0, (vis (List.replicate N false) start).2⟩] := by rw [addSt, if_neg hf0]; rfl
    rw [hadd] at hA
    generalize vis (List.replicate N false) start = V at *
    simp only [go_sem, Nat.reduceBEq, Nat.reduceLT, Nat.reduceAdd, Nat.reduceMul, Nat.reduceSub, Nat.reduceLeDiff, decide_true, ne_eq, Nat.reduceEqDiff, not_false_eq_true, Classical.not_not, Int.lt_irrefl, false_implies]
    refine LoopWp.by (fun m ρ σ => ∃ (i : Nat) (st : List St) (ws : List (List Int)) (seen : List Bool) (out : AV) (τ : Store), Bfs y nx g N start st ws seen i 0 ∧ Acc 3 (st.map eSt) out τ ∧ Away bT τ ∧ Away bS τ ∧ Away bs τ ∧ get ρ 2 = ints y.ls ∧ get ρ 3 = .clos (.func nf) [] nc ∧
      get ρ 13 = .ptr bT 0 ∧ get ρ 14 = .clos (.func 93) [] [.ptr bS 0, .cptr [.clos (.func gf) [] gc], .ptr bT 0] ∧ get ρ 15 = .int i ∧ i ≤ st.length ∧ σ = stS bT bS bs N out seen τ ∧ m = N - i) N ?_ ?_
    · exact ⟨0, _, _, V.1, out, τ, hB0, hA, aT, aS, aB, rfl, rfl, rfl, rfl, rfl, by omega, rfl, by omega⟩
    clear hA aT aS aB out τ hB0 hadd hf0 hng hfm hok0 hvis0
    rintro m ρ σ ⟨i, st, ws, seen, out, τ, hB, hA, aT, aS, aB, g2, g3, g13, g14, g15, hi, rfl, rfl⟩
    have hcount : seen.count true ≤ N := by rw [← hB.slen]; exact List.count_le_length
    have hsz := hB.sz
    have hst0 : 0 < st.length := by
      obtain ⟨n, hn⟩ := List.exists_mem_of_ne_nil _ hy.st0
      obtain ⟨s, hs, _⟩ := hB.start n hn
      exact (List.getElem?_eq_some_iff.1 hs).1
    by_cases hlt : i < st.length
    · obtain ⟨s, hs⟩ : ∃ s, st[i]? = some s := ⟨_, List.getElem?_eq_getElem hlt⟩
      obtain ⟨bo, rfl, rfl⟩ : ∃ bo, out = .vec bo 3 (st.map eSt) ∧ τ = [(bo, .tail ((st.map eSt).length * 3))] := by
        rcases hA with ⟨h0, _⟩ | h
        · have := List.map_eq_nil_iff.1 h0; rw [this] at hst0; simp at hst0
        · exact h
      have aT0 := aT
      have aS0 := aS
      have aB0 := aB
      unfold stS
      simp only [go_sem, Nat.reduceBEq, Nat.reduceLT, Nat.reduceAdd, Nat.reduceMul, Nat.reduceSub, Nat.reduceLeDiff, decide_true, ne_eq, Nat.reduceEqDiff, not_false_eq_true, Classical.not_not, Int.lt_irrefl, false_implies, g2, g3, g13, g14, g15, f1, f2]
      refine ⟨fun _ => ?_, fun h => by omega⟩
      clear hst0 hs
      refine LoopWp.by (fun m ρ σ => ∃ (li : Nat) (st : List St) (ws : List (List Int)) (seen : List Bool) (out : AV) (τ : Store), Bfs y nx g N start st ws seen i li ∧ Acc 3 (st.map eSt) out τ ∧ Away bT τ ∧ Away bS τ ∧ Away bs τ ∧ i < st.length ∧ get ρ 2 = ints y.ls ∧ get ρ 3 = .clos (.func nf) [] nc ∧
        get ρ 13 = .ptr bT 0 ∧ get ρ 14 = .clos (.func 93) [] [.ptr bS 0, .cptr [.clos (.func gf) [] gc], .ptr bT 0] ∧ get ρ 15 = .int i ∧ get ρ 33 = ints y.ls ∧ get ρ 34 = .int y.ls.length ∧ get ρ 35 = .int li ∧ li ≤ y.ls.length ∧ σ = stS bT bS bs N out seen τ ∧ m = y.ls.length - li) y.ls.length ?_ ?_
      · exact ⟨0, st, ws, seen, _, _, hB, hA, aT0, aS0, aB0, hlt, rfl, rfl, rfl, rfl, rfl, rfl, rfl, rfl, by omega, by simp [stS], by omega⟩
      rintro m ρ σ ⟨li, st, ws, seen, out, τ, hB, hA, aT, aS, aB, hlt, g2, g3, g13, g14, g15, g33, g34, g35, hli, rfl, rfl⟩
      have hcount : seen.count true ≤ N := by rw [← hB.slen]; exact List.count_le_length
      have hsz := hB.sz
      by_cases hlt2 : li < y.ls.length
      · obtain ⟨l, hl⟩ : ∃ l, y.ls[li]? = some l := ⟨_, List.getElem?_eq_getElem hlt2⟩
        have hlm := List.mem_of_getElem? hl
        obtain ⟨s, hs⟩ : ∃ s, st[i]? = some s := ⟨_, List.getElem?_eq_getElem hlt⟩
        have hlen := hB.pth.len
        obtain ⟨wi, hwi⟩ : ∃ w, ws[i]? = some w := ⟨_, List.getElem?_eq_getElem (by omega)⟩
        have hnl := hB.nlen s (List.mem_of_getElem? hs)
        have hsn : ∀ n ∈ s.nd, 0 ≤ n ∧ n < (N : Int) := fun n hn => (hB.nodes i s wi hs hwi n hn).1
        obtain ⟨bo, rfl, rfl⟩ : ∃ bo, out = .vec bo 3 (st.map eSt) ∧ τ = [(bo, .tail ((st.map eSt).length * 3))] := by
          rcases hA with ⟨h0, _⟩ | h
          · have := List.map_eq_nil_iff.1 h0; rw [this] at hlt; simp at hlt
          · exact h
        have hsv : (st.map eSt)[i]? = some (eSt s) := by rw [List.getElem?_map, hs]; rfl
        have hstS : stS bT bS bs N (.vec bo 3 (st.map eSt)) seen [(bo, .tail ((st.map eSt).length * 3))] = (bT, .own [.vec bo 3 (st.map eSt)]) :: (bS, .own [.msl bs 0 N N]) :: (bs, .own (seen.map AV.bool)) :: [(bo, .tail ((st.map eSt).length * 3))] := rfl
        generalize hSS : stS bT bS bs N (.vec bo 3 (st.map eSt)) seen [(bo, .tail ((st.map eSt).length * 3))] = SS at *
        have hlook : AX.look SS bT = some (.own [.vec bo 3 (st.map eSt)]) := by rw [hstS, look_hd]
        simp only [go_sem, Nat.reduceBEq, Nat.reduceLT, Nat.reduceAdd, Nat.reduceMul, Nat.reduceSub, Nat.reduceLeDiff, decide_true, ne_eq, Nat.reduceEqDiff, not_false_eq_true, Classical.not_not, Int.lt_irrefl, false_implies, g2, g3, g13, g14, g15, g33, g34, g35, hl, hlook, hs]
        refine ⟨fun _ => ?_, fun h => by omega⟩
        have hflat : ∀ k, ((s.nd.take k).flatMap fun n => nx n l).length ≤ k * 4096 := fun k => by
          have key : ∀ (L : List Int), (∀ n ∈ L, 0 ≤ n ∧ n < (N : Int)) → (L.flatMap fun n => nx n l).length ≤ L.length * 4096 := by
            intro L
            induction L with
            | nil => intro _; simp
            | cons a L ih =>
              intro hL
              have h1 := ih fun n hn => hL n (by simp [hn])
              have h2 := hnx a l (hL a (by simp)) hlm
              simp only [List.flatMap_cons, List.length_append, List.length_cons]; omega
          have := key (s.nd.take k) fun n hn => hsn n (List.mem_of_mem_take hn)
          have h3 : (s.nd.take k).length ≤ k := List.length_take_le _ _
          omega
        refine LoopWp.by (fun m ρ σ => ∃ (k : Nat) (r : AV) (τr : Store), Buf 1 (((s.nd.take k).flatMap fun n => nx n l).map eI) r τr ∧ get ρ 2 = ints y.ls ∧ get ρ 3 = .clos (.func nf) [] nc ∧
          get ρ 13 = .ptr bT 0 ∧ get ρ 14 = .clos (.func 93) [] [.ptr bS 0, .cptr [.clos (.func gf) [] gc], .ptr bT 0] ∧ get ρ 15 = .int i ∧ get ρ 17 = .int l ∧ get ρ 18 = r ∧ get ρ 33 = ints y.ls ∧ get ρ 34 = .int y.ls.length ∧ get ρ 35 = .int li ∧
          get ρ 43 = ints s.nd ∧ get ρ 44 = .int s.nd.length ∧ get ρ 45 = .int k ∧ k ≤ s.nd.length ∧ σ = τr ++ SS ∧ m = s.nd.length - k) s.nd.length ?_ ?_
        · exact ⟨0, .nils, [], Buf.nil 1, rfl, rfl, rfl, rfl, rfl, rfl, rfl, rfl, rfl, rfl, rfl, rfl, rfl, by omega, rfl, by omega⟩
        rintro m ρ σ ⟨k, r, τr, hBuf, g2, g3, g13, g14, g15, g17, g18, g33, g34, g35, g43, g44, g45, hk, rfl, rfl⟩
        by_cases hlt3 : k < s.nd.length
        · obtain ⟨n, hn⟩ : ∃ n, s.nd[k]? = some n := ⟨_, List.getElem?_eq_getElem hlt3⟩
          have hfk := hflat k
          simp only [go_sem, Nat.reduceBEq, Nat.reduceLT, Nat.reduceAdd, Nat.reduceMul, Nat.reduceSub, Nat.reduceLeDiff, decide_true, ne_eq, Nat.reduceEqDiff, not_false_eq_true, Classical.not_not, Int.lt_irrefl, false_implies, g2, g3, g13, g14, g15, g17, g18, g33, g34, g35, g43, g44, g45, hn]
          refine ⟨fun _ => ?_, fun h => by omega⟩
          refine CallWp.frameD (σ1 := τr) ((hnext n l _ r τr (hsn n (List.mem_of_getElem? hn)) hlm hBuf (by omega)).mono ?_)
          intro r' σ' hBuf' hDj
          simp only [go_sem, Nat.reduceBEq, Nat.reduceLT, Nat.reduceAdd, Nat.reduceMul, Nat.reduceSub, Nat.reduceLeDiff, decide_true, ne_eq, Nat.reduceEqDiff, not_false_eq_true, Classical.not_not, Int.lt_irrefl, false_implies, g2, g3, g13, g14, g15, g17, g18, g33, g34, g35, g43, g44, g45]
          refine ⟨⟨by omega, by omega⟩, _, ?_, k + 1, r', σ', ?_, rfl, rfl, rfl, rfl, rfl, rfl, rfl, rfl, rfl, rfl, rfl, rfl, rfl, by omega, rfl, rfl⟩
          · omega
          · rw [List.take_add_one, hn, List.flatMap_append]; simpa using hBuf'
        · have : k = s.nd.length := by omega
          subst this
          rw [List.take_length] at hBuf
          have hfk := hflat s.nd.length
          rw [List.take_length] at hfk
          have hvr : ∀ n ∈ (s.nd.flatMap fun n => nx n l), 0 ≤ n ∧ n < (N : Int) := fun m hm => by
            obtain ⟨n, hn, hm⟩ := List.mem_flatMap.1 hm
            exact hy.nx n l (hsn n hn) hlm m hm
          have hvis := impl_visit (gl := gl) N hN.2 g gf gc hgoal seen hB.slen (s.nd.flatMap fun n => nx n l) hvr (by omega) i l st (by omega) (.vec bo 3 (st.map eSt)) [(bo, .tail ((st.map eSt).length * 3))] hA bT bS bs m3 m5 m1 aT aS aB
          have hok := vis_ok (seen0 := seen) (nodes := s.nd.flatMap fun n => nx n l) (by rw [hB.slen]; exact hvr)
          rw [hSS] at hvis
          generalize hV : vis seen (s.nd.flatMap fun n => nx n l) = V at *
          have hgive : GhAll gl τr [.int i, .int l, r, .ptr bS 0, .cptr [.clos (.func gf) [] gc], .ptr bT 0] [.int i, .int l, ints (s.nd.flatMap fun n => nx n l), .ptr bS 0, .cptr [.clos (.func gf) [] gc], .ptr bT 0] := by
            have h := Gh.cons (gl := gl) (Gh.of (Sees.refl (.int i))) (Gh.cons (Gh.of (Sees.refl (.int l))) (Gh.cons hBuf.gh (Gh.cons (Gh.of (Sees.refl (.ptr bS 0))) (Gh.cons (Gh.of (Sees.refl (.cptr [.clos (.func gf) [] gc]))) (Gh.cons (Gh.of (Sees.refl (.ptr bT 0))) GhAll.nil)))))
            simp only [List.nil_append, List.append_nil] at h
            exact h
          simp only [go_sem, Nat.reduceBEq, Nat.reduceLT, Nat.reduceAdd, Nat.reduceMul, Nat.reduceSub, Nat.reduceLeDiff, decide_true, ne_eq, Nat.reduceEqDiff, not_false_eq_true, Classical.not_not, Int.lt_irrefl, false_implies, g2, g3, g13, g14, g15, g17, g18, g33, g34, g35, g43, g44, g45]
          refine CallWp.give hgive (hvis.mono ?_)
          rintro rr σ ⟨out2, τ2, rfl, hA2, aT2, aS2, aB2, rfl⟩
          have hS2 : AX.look (stS bT bS bs N out2 V.1 τ2) bT = some (.own [out2]) := by rw [stS, look_hd]
          generalize hSS2 : stS bT bS bs N out2 V.1 τ2 = SS2 at *
          cases hany2 : V.2.any g
          case true =>
            obtain ⟨m, hm, hgm⟩ := List.any_eq_true.1 hany2
            obtain ⟨n, hn, hmn⟩ := List.mem_flatMap.1 ((hok.fresh m).1 hm).1
            have hfirst := firstOf_some hy.ls6 (hB.hit hy hs hwi hl hn hmn hgm)
            have hne : V.2 ≠ [] := fun e => by rw [e] at hm; cases hm
            have hadd : addSt st i l V.2 = st ++ [⟨i, l, V.2⟩] := by rw [addSt, if_neg hne]
            rw [hadd] at hA2
            have hP := hB.pth.snoc (f := V.2) hwi (hy.ls6 l hlm)
            have hwl := hB.pth.short i wi hwi
            obtain ⟨bo2, rfl, rfl⟩ : ∃ bo, out2 = .vec bo 3 ((st ++ [(⟨i, l, V.2⟩ : St)]).map eSt) ∧ τ2 = [(bo, .tail (((st ++ [(⟨i, l, V.2⟩ : St)]).map eSt).length * 3))] := by
              rcases hA2 with ⟨h0, _⟩ | h
              · have := List.map_eq_nil_iff.1 h0; simp at this
              · exact h
            have hpw := impl_pathWord (gl := gl) _ _ hP (by simp; omega) (wi ++ [l]) (by simp [← hlen]) (by simp; omega)
            have hpw2 := Pure.seen [.vec bo2 3 ((st ++ [(⟨i, l, V.2⟩ : St)]).map eSt)] hpw ⟨Sees.vec, trivial⟩
            generalize (st ++ [(⟨i, l, V.2⟩ : St)]).map eSt = Z at *
            simp only [go_sem, Nat.reduceBEq, Nat.reduceLT, Nat.reduceAdd, Nat.reduceMul, Nat.reduceSub, Nat.reduceLeDiff, decide_true, ne_eq, Nat.reduceEqDiff, not_false_eq_true, Classical.not_not, Int.lt_irrefl, false_implies, g2, g3, g13, g14, g15, g17, g18, g33, g34, g35, g43, g44, g45, hS2]
            refine hpw2.call ?_
            simp only [go_sem, Nat.reduceBEq, Nat.reduceLT, Nat.reduceAdd, Nat.reduceMul, Nat.reduceSub, Nat.reduceLeDiff, decide_true, ne_eq, Nat.reduceEqDiff, not_false_eq_true, Classical.not_not, Int.lt_irrefl, false_implies, g2, g3, g13, g14, g15, g17, g18, g33, g34, g35, g43, g44, g45, hS2]
            rw [hfirst]
            exact Sees.refl _
          case false =>
            have hng : ∀ m ∈ V.2, g m = false := fun m hm => by
              have := List.any_eq_false.1 hany2 m hm
              simpa using this
            obtain ⟨hv1, hv2⟩ := hB.visit hy hs hwi hl hok hng
            have hnew : ∃ st' ws', Bfs y nx g N start st' ws' V.1 i (li + 1) ∧ addSt st i l V.2 = st' ∧ i < st'.length := by
              by_cases hne : V.2 = []
              · exact ⟨st, ws, hv1 hne, by rw [addSt, if_pos hne], hlt⟩
              · exact ⟨_, _, hv2 hne, by rw [addSt, if_neg hne], by simp; omega⟩
            obtain ⟨st', ws', hB', hst', hlt'⟩ := hnew
            rw [hst'] at hA2
            simp only [go_sem, Nat.reduceBEq, Nat.reduceLT, Nat.reduceAdd, Nat.reduceMul, Nat.reduceSub, Nat.reduceLeDiff, decide_true, ne_eq, Nat.reduceEqDiff, not_false_eq_true, Classical.not_not, Int.lt_irrefl, false_implies, g2, g3, g13, g14, g15, g17, g18, g33, g34, g35, g43, g44, g45]
            refine ⟨⟨by omega, by omega⟩, _, ?_, li + 1, st', ws', V.1, out2, τ2, hB', hA2, aT2, aS2, aB2, hlt', rfl, rfl, rfl, rfl, rfl, rfl, rfl, rfl, by omega, hSS2.symm, rfl⟩
            omega
      · have : li = y.ls.length := by omega
        have hB2 := hB.next this
        simp only [go_sem, Nat.reduceBEq, Nat.reduceLT, Nat.reduceAdd, Nat.reduceMul, Nat.reduceSub, Nat.reduceLeDiff, decide_true, ne_eq, Nat.reduceEqDiff, not_false_eq_true, Classical.not_not, Int.lt_irrefl, false_implies, g2, g3, g13, g14, g15, g33, g34, g35]
        refine ⟨fun h => by omega, fun _ => ⟨⟨by omega, by omega⟩, _, ?_, i + 1, st, ws, seen, out, τ, hB2, hA, aT, aS, aB, rfl, rfl, rfl, rfl, rfl, by omega, rfl, rfl⟩⟩
        omega
    · have hnone := hB.none hy (by omega)
      obtain ⟨bo, rfl, rfl⟩ : ∃ bo, out = .vec bo 3 (st.map eSt) ∧ τ = [(bo, .tail ((st.map eSt).length * 3))] := by
        rcases hA with ⟨h0, _⟩ | h
        · have := List.map_eq_nil_iff.1 h0; rw [this] at hst0; simp at hst0
        · exact h
      unfold stS
      simp only [go_sem, Nat.reduceBEq, Nat.reduceLT, Nat.reduceAdd, Nat.reduceMul, Nat.reduceSub, Nat.reduceLeDiff, decide_true, ne_eq, Nat.reduceEqDiff, not_false_eq_true, Classical.not_not, Int.lt_irrefl, false_implies, g2, g3, g13, g14, g15, f1, f2]
      refine ⟨fun h => by omega, fun _ => ?_⟩
      rw [hnone]
      exact Sees.refl _
end Go.Proofs
end
