/- Contracts of the functions that the law reaches. -/
import Derived.Test.YtgcglnaffdgpbaaGreatDoorWalkE
import Derived.Test.YtgcglnaffdgpbaaGreatDoorPlainB
section
/- Contracts: the impl's search for a broken property, its closures. -/
namespace Go.Proofs
open Go.AX AG
variable {gl : Globs}
set_option maxRecDepth 10000
set_option linter.unusedSimpArgs false

theorem tab_get (a : Au) {q : Int} (hq : 0 ≤ q ∧ q < a.nx.length) : ((List.range a.nx.length).map fun q => rowF (tabRow a q))[q.toNat]? = some (rowF (tabRow a q.toNat)) := by
  have : q.toNat < a.nx.length := by omega
  simp [this]
theorem rowF_get (a : Au) {q l : Int} (hq : 0 ≤ q) (hl : 0 ≤ l ∧ l < 6) : ((rowF (tabRow a q.toNat)).drop l.toNat).take 1 = [AV.int (aGo a q l)] := by
  have h : ((List.range 6).map (tabRow a q.toNat))[l.toNat]? = some (aGo a q l) := by
    have h1 : l.toNat < 6 := by omega
    have h2 : ((q.toNat : Nat) : Int) = q := by omega
    have h3 : ((l.toNat : Nat) : Int) = l := by omega
    simp [h1, tabRow, h2, h3]
  exact own_read (f := AV.int) h
set_option maxHeartbeats 1000000 in
theorem impl_bNext (hg : lookG gl 1 = .cptr deBruijn) (ps : List Ts) (aa p : Au) (hl : ps.length ≤ 3) (hs : ∀ s ∈ ps, sysOk s = true) (ha : autOk aa = true) (hp : autOk p = true) (node l : Int) (hn : 0 ≤ node ∧ node ≤ 1073741824) (hlt : 0 ≤ l ∧ l < 6)
    (xs : List Int) (out : AV) (τ : Store) (hB : Buf 1 (xs.map eI) out τ) (hx : xs.length ≤ 4294967296) :
    CallWp Tryz.prog gl 82 [.int node, .int l, out, .cptr [tab aa], .cptr [.int p.nx.length], .cptr [.int aa.nx.length], .cptr [tab p], .cptr (eP ps)] τ fun r σ => Buf 1 ((xs ++ bNext ps aa p node l).map eI) r σ := by
  obtain ⟨a1, a2, _⟩ := autOk_len ha
  obtain ⟨p1, p2, _⟩ := autOk_len hp
  have hm1 : 0 ≤ node / p.nx.length := Int.ediv_nonneg hn.1 (by omega)
  have hm2 : node / p.nx.length ≤ node := Int.ediv_le_self _ hn.1
  have hu : 0 ≤ node / p.nx.length % aa.nx.length ∧ node / p.nx.length % aa.nx.length < aa.nx.length := ⟨Int.emod_nonneg _ (by omega), Int.emod_lt_of_pos _ (by omega)⟩
  have hq : 0 ≤ node % p.nx.length ∧ node % p.nx.length < p.nx.length := ⟨Int.emod_nonneg _ (by omega), Int.emod_lt_of_pos _ (by omega)⟩
  have hT0 : 0 ≤ node / p.nx.length / aa.nx.length := Int.ediv_nonneg hm1 (by omega)
  have hT1 : node / p.nx.length / aa.nx.length ≤ node / p.nx.length := Int.ediv_le_self _ hm1
  have g1 := tab_get aa hu
  have g2 := tab_get p hq
  have r1 := rowF_get aa (q := node / p.nx.length % aa.nx.length) hu.1 hlt
  have r2 := rowF_get p (q := node % p.nx.length) hq.1 hlt
  have i1 := aGo_in ha hu hlt
  have i2 := aGo_in hp hq hlt
  have l1 := rowF_len (tabRow aa (node / p.nx.length % aa.nx.length).toNat)
  have l2 := rowF_len (tabRow p (node % p.nx.length).toNat)
  have hmul : 0 ≤ aGo aa (node / p.nx.length % aa.nx.length) l * p.nx.length ∧ aGo aa (node / p.nx.length % aa.nx.length) l * p.nx.length ≤ 12 * 12 := ⟨Int.mul_nonneg i1.1 (by omega), Int.mul_le_mul (by omega) (by omega) (by omega) (by omega)⟩
  refine callWp_of (cf := ⟨68, [0, 1, 2, 3, 4, 5, 6, 7, 11, 12, 13, 14, 51], [46], [3, 4, 5, 6, 7, 1000000]⟩) (rs := [.tmp 11]) Tryz.func82 rfl (by decide) rfl rfl (by simp) ?_
  simp only [go_sem, Nat.reduceBEq, Nat.reduceLT, Nat.reduceAdd, Nat.reduceMul, Nat.reduceSub, Nat.reduceLeDiff, decide_true, ne_eq, Nat.reduceEqDiff, not_false_eq_true, Classical.not_not, Int.lt_irrefl, false_implies]
  refine DrawK.text mixed (by kernel_rfl) ?_
  simp only [go_sem, Nat.reduceBEq, Nat.reduceLT, Nat.reduceAdd, Nat.reduceMul, Nat.reduceSub, Nat.reduceLeDiff, decide_true, ne_eq, Nat.reduceEqDiff, not_false_eq_true, Classical.not_not, Int.lt_irrefl, false_implies, tab, g1, g2, r1, r2, List.length_drop, l1, l2]
  refine ⟨⟨by omega, by omega, by omega⟩, ⟨by omega, by omega⟩, by omega, ⟨by omega, by omega⟩, by omega, ⟨by omega, by omega⟩, ⟨by omega, by omega⟩, by omega, ⟨by omega, by omega⟩, by omega, ⟨by omega, by omega⟩, ?_⟩
  refine hB.len rfl ?_
  simp only [go_sem, Nat.reduceBEq, Nat.reduceLT, Nat.reduceAdd, Nat.reduceMul, Nat.reduceSub, Nat.reduceLeDiff, decide_true, ne_eq, Nat.reduceEqDiff, not_false_eq_true, Classical.not_not, Int.lt_irrefl, false_implies]
  refine DrawK.text mixed (by kernel_rfl) ?_
  simp only [go_sem, Nat.reduceBEq, Nat.reduceLT, Nat.reduceAdd, Nat.reduceMul, Nat.reduceSub, Nat.reduceLeDiff, decide_true, ne_eq, Nat.reduceEqDiff, not_false_eq_true, Classical.not_not, Int.lt_irrefl, false_implies]
  refine ⟨⟨by omega, by omega, by omega⟩, ⟨by omega, by omega, by omega⟩, ?_⟩
  refine (impl_next hg ps hl hs (node / p.nx.length / aa.nx.length) l ⟨hT0, by omega⟩ hlt xs out τ hB (by omega)).mono ?_
  intro out2 τ2 hB2
  simp only [go_sem, Nat.reduceBEq, Nat.reduceLT, Nat.reduceAdd, Nat.reduceMul, Nat.reduceSub, Nat.reduceLeDiff, decide_true, ne_eq, Nat.reduceEqDiff, not_false_eq_true, Classical.not_not, Int.lt_irrefl, false_implies]
  obtain ⟨hPl, hPin⟩ := pnext_in hs hl (l := l) hT0
  have hbN : bNext ps aa p node l = (pnext ps (node / p.nx.length / aa.nx.length) l).map fun x => x * aa.nx.length * p.nx.length + bRest aa p node l := rfl
  have hrest : aGo aa (node / p.nx.length % aa.nx.length) l * p.nx.length + aGo p (node % p.nx.length) l = bRest aa p node l := rfl
  rw [hrest, hbN]
  have hszP := szP_pos hs ps.length (Nat.le_refl _)
  rw [List.take_length] at hszP
  have h16 : (16 : Int) ^ ps.length ≤ 4096 := by
    have : ps.length = 0 ∨ ps.length = 1 ∨ ps.length = 2 ∨ ps.length = 3 := by omega
    rcases this with h | h | h | h <;> rw [h] <;> decide
  have hbr : 0 ≤ bRest aa p node l ∧ bRest aa p node l ≤ 156 := by unfold bRest; omega
  generalize bRest aa p node l = B at *
  generalize pnext ps (node / p.nx.length / aa.nx.length) l = R at *
  refine LoopWp.by (fun m ρ σ => ∃ j : Nat, Buf 1 ((xs ++ ((R.take j).map (fun x => x * aa.nx.length * p.nx.length + B) ++ R.drop j)).map eI) out2 σ ∧ get ρ 2 = out2 ∧ get ρ 4 = .cptr [.int p.nx.length] ∧ get ρ 5 = .cptr [.int aa.nx.length] ∧ get ρ 12 = .int B ∧ get ρ 14 = .int ((xs.length + j : Nat) : Int) ∧ j ≤ R.length ∧ m = R.length - j) R.length ?_ ?_
  · exact ⟨0, by simpa using hB2, rfl, rfl, rfl, rfl, by simp [AX.get], by omega, by omega⟩
  rintro m ρ σ ⟨j, hBj, g2, g4, g5, g12, g14, hj, rfl⟩
  have hL : (xs ++ ((R.take j).map (fun x => x * aa.nx.length * p.nx.length + B) ++ R.drop j)).length = xs.length + R.length := by simp; omega
  by_cases hlt2 : j < R.length
  · obtain ⟨x, hx'⟩ : ∃ x, R[j]? = some x := ⟨_, List.getElem?_eq_getElem hlt2⟩
    have hxr := hPin x (List.mem_of_getElem? hx')
    obtain ⟨hget, hset⟩ := map_step (fun x => x * aa.nx.length * p.nx.length + B) xs hx'
    obtain ⟨b, c, rest, hout, hσ, hc1, hc2⟩ := hBj.ints (by intro e; rw [e] at hL; simp at hL; omega)
    rw [hL] at hout hc1 hc2
    have hrd := own_read_app (f := AV.int) (rest := rest) hget
    have hwr := own_write_app (f := AV.int) (rest := rest) (l := xs ++ ((R.take j).map (fun x => x * aa.nx.length * p.nx.length + B) ++ R.drop j)) (i := xs.length + j) (y := x * aa.nx.length * p.nx.length + B) (by omega)
    rw [hset] at hwr
    have hL2 : (xs ++ ((R.take (j + 1)).map (fun x => x * aa.nx.length * p.nx.length + B) ++ R.drop (j + 1))).length = xs.length + R.length := by simp; omega
    have hBn := Buf.of_ints (L := xs ++ ((R.take (j + 1)).map (fun x => x * aa.nx.length * p.nx.length + B) ++ R.drop (j + 1))) (b := b) (c := c) (n := xs.length + R.length) (rest := rest) hL2.symm (by omega) (by omega)
    have hm3 : 0 ≤ x * aa.nx.length ∧ x * aa.nx.length ≤ 4096 * 12 := ⟨Int.mul_nonneg hxr.1 (by omega), Int.mul_le_mul (by omega) (by omega) (by omega) (by omega)⟩
    have hm4 : 0 ≤ x * aa.nx.length * p.nx.length ∧ x * aa.nx.length * p.nx.length ≤ 4096 * 12 * 12 := ⟨Int.mul_nonneg hm3.1 (by omega), Int.mul_le_mul (by omega) (by omega) (by omega) (by omega)⟩
    generalize xs ++ ((R.take j).map (fun x => x * aa.nx.length * p.nx.length + B) ++ R.drop j) = L at *
    generalize hN : xs ++ ((R.take (j + 1)).map (fun x => x * aa.nx.length * p.nx.length + B) ++ R.drop (j + 1)) = L2 at *
    subst hout hσ
    simp only [go_sem, Nat.reduceBEq, Nat.reduceLT, Nat.reduceAdd, Nat.reduceMul, Nat.reduceSub, Nat.reduceLeDiff, decide_true, ne_eq, Nat.reduceEqDiff, not_false_eq_true, Classical.not_not, Int.lt_irrefl, false_implies, g2, g4, g5, g12, g14]
    refine ⟨fun _ => ?_, fun h => by omega⟩
    refine DrawK.text mixed (by kernel_rfl) ?_
    simp only [go_sem, Nat.reduceBEq, Nat.reduceLT, Nat.reduceAdd, Nat.reduceMul, Nat.reduceSub, Nat.reduceLeDiff, decide_true, ne_eq, Nat.reduceEqDiff, not_false_eq_true, Classical.not_not, Int.lt_irrefl, false_implies, g2, g4, g5, g12, g14, hrd, hwr, List.length_append, List.length_map, hL]
    refine ⟨by omega, by omega, ⟨by omega, by omega⟩, ⟨by omega, by omega⟩, ⟨by omega, by omega⟩, by omega, by omega, ⟨by omega, by omega⟩, _, ?_, j + 1, by rw [hN]; exact hBn, rfl, rfl, rfl, rfl, rfl, by omega, rfl⟩
    omega
  · have : j = R.length := by omega
    subst this
    rw [List.take_length, List.drop_length, List.append_nil] at hBj
    simp only [go_sem, Nat.reduceBEq, Nat.reduceLT, Nat.reduceAdd, Nat.reduceMul, Nat.reduceSub, Nat.reduceLeDiff, decide_true, ne_eq, Nat.reduceEqDiff, not_false_eq_true, Classical.not_not, Int.lt_irrefl, false_implies, g2, g4, g5, g12, g14]
    refine hBj.len rfl ?_
    simp only [go_sem, Nat.reduceBEq, Nat.reduceLT, Nat.reduceAdd, Nat.reduceMul, Nat.reduceSub, Nat.reduceLeDiff, decide_true, ne_eq, Nat.reduceEqDiff, not_false_eq_true, Classical.not_not, Int.lt_irrefl, false_implies, g2]
    simpa using hBj
theorem impl_bGoal (aa p : Au) (ha : autOk aa = true) (hp : autOk p = true) (node : Int) (hn : 0 ≤ node ∧ node ≤ 1073741824) :
    Pure Tryz.prog gl 84 [.int node, .cptr [.cptr (eA aa)], .cptr [.int p.nx.length], .cptr [.int aa.nx.length], .cptr (eA p)] (.bool (bGoal aa p node)) := by
  obtain ⟨a1, a2, a3⟩ := autOk_len ha
  obtain ⟨p1, p2, p3⟩ := autOk_len hp
  have hm1 : 0 ≤ node / p.nx.length := Int.ediv_nonneg hn.1 (by omega)
  have hu : 0 ≤ node / p.nx.length % aa.nx.length ∧ node / p.nx.length % aa.nx.length < aa.nx.length := ⟨Int.emod_nonneg _ (by omega), Int.emod_lt_of_pos _ (by omega)⟩
  have hq : 0 ≤ node % p.nx.length ∧ node % p.nx.length < p.nx.length := ⟨Int.emod_nonneg _ (by omega), Int.emod_lt_of_pos _ (by omega)⟩
  have hm2 : node / p.nx.length ≤ node := Int.ediv_le_self _ hn.1
  obtain ⟨x, hx⟩ : ∃ x, aa.ac[(node / p.nx.length % aa.nx.length).toNat]? = some x := ⟨_, List.getElem?_eq_getElem (by omega)⟩
  obtain ⟨z, hz⟩ : ∃ z, p.ac[(node % p.nx.length).toNat]? = some z := ⟨_, List.getElem?_eq_getElem (by omega)⟩
  refine callWp_of (cf := ⟨28, [0, 1, 2, 3, 4, 6], [], [1, 2, 3, 4, 19]⟩) (rs := [.tmp 6]) Tryz.func84 rfl (by decide) rfl rfl (by simp) ?_
  simp only [go_sem, Nat.reduceBEq, Nat.reduceLT, Nat.reduceAdd, Nat.reduceMul, Nat.reduceSub, Nat.reduceLeDiff, decide_true, ne_eq, Nat.reduceEqDiff, not_false_eq_true, Classical.not_not, Int.lt_irrefl, false_implies]
  refine DrawK.text mixed (by kernel_rfl) ?_
  simp only [go_sem, Nat.reduceBEq, Nat.reduceLT, Nat.reduceAdd, Nat.reduceMul, Nat.reduceSub, Nat.reduceLeDiff, decide_true, ne_eq, Nat.reduceEqDiff, not_false_eq_true, Classical.not_not, Int.lt_irrefl, false_implies, hx, hz]
  refine ⟨⟨by omega, by omega, by omega⟩, ⟨by omega, by omega⟩, by omega, fun h => ⟨⟨by omega, by omega⟩, by omega, ?_⟩, fun h => ?_⟩
  · simp [bGoal, hx, hz, h]
  · simp [bGoal, hx, h]
end Go.Proofs
end
section
/- Contracts: the impl's search for a broken property. -/
namespace Go.Proofs
open Go.AX AG
variable {gl : Globs}
set_option maxRecDepth 10000
set_option linter.unusedSimpArgs false

theorem bSys_ok {ps : List Ts} {aa p : Au} (hs : ∀ s ∈ ps, sysOk s = true) (hl : ps.length ≤ 3) (ha : autOk aa = true) (hp : autOk p = true) :
    (SysOk (bSys ps aa p) (bNext ps aa p) (bGoal aa p) (bSize ps aa p) [0]) ∧ (0 < bSize ps aa p ∧ bSize ps aa p ≤ 589824) ∧ ((bSize ps aa p : Nat) : Int) = szP ps * aa.nx.length * p.nx.length := by
  obtain ⟨a1, a2, _⟩ := autOk_len ha
  obtain ⟨p1, p2, _⟩ := autOk_len hp
  have hz := szP_pos hs ps.length (Nat.le_refl _)
  rw [List.take_length] at hz
  have h16 : (16 : Int) ^ ps.length ≤ 4096 := by
    have : ps.length = 0 ∨ ps.length = 1 ∨ ps.length = 2 ∨ ps.length = 3 := by omega
    rcases this with h | h | h | h <;> rw [h] <;> decide
  have m1 : 1 * 1 ≤ szP ps * aa.nx.length ∧ szP ps * aa.nx.length ≤ 4096 * 12 := ⟨Int.mul_le_mul (by omega) (by omega) (by omega) (by omega), Int.mul_le_mul (by omega) (by omega) (by omega) (by omega)⟩
  have m2 : 1 * 1 ≤ szP ps * aa.nx.length * p.nx.length ∧ szP ps * aa.nx.length * p.nx.length ≤ 4096 * 12 * 12 := ⟨Int.mul_le_mul (by omega) (by omega) (by omega) (by omega), Int.mul_le_mul m1.2 (by omega) (by omega) (by omega)⟩
  have hN : ((bSize ps aa p : Nat) : Int) = szP ps * aa.nx.length * p.nx.length := by unfold bSize; omega
  refine ⟨⟨letters_6 _, letters_sorted _, fun i l j => Iff.rfl, fun i => Iff.rfl, fun i => Iff.rfl, by simp, fun n hn => ?_, fun n l h0 hl2 m hm => ?_⟩, by omega, hN⟩
  · simp at hn; omega
  · unfold bNext at hm
    obtain ⟨x, hx, rfl⟩ := List.mem_map.1 hm
    have hn1 : 0 ≤ n / p.nx.length := Int.ediv_nonneg h0.1 (by omega)
    obtain ⟨_, hin⟩ := pnext_in hs hl (l := l) (node := n / p.nx.length / aa.nx.length) (Int.ediv_nonneg hn1 (by omega))
    obtain ⟨x1, x2⟩ := hin x hx
    have hl6 := letters_6 _ l hl2
    have i1 := aGo_in (q := n / p.nx.length % aa.nx.length) ha ⟨Int.emod_nonneg _ (by omega), Int.emod_lt_of_pos _ (by omega)⟩ hl6
    have i2 := aGo_in (q := n % p.nx.length) hp ⟨Int.emod_nonneg _ (by omega), Int.emod_lt_of_pos _ (by omega)⟩ hl6
    unfold bRest
    rw [hN]
    generalize aGo aa (n / p.nx.length % aa.nx.length) l = u at *
    generalize aGo p (n % p.nx.length) l = q at *
    generalize szP ps = z at *
    have e1 : x * aa.nx.length + u + 1 ≤ z * aa.nx.length := by
      have := Int.mul_le_mul_of_nonneg_right (show x + 1 ≤ z by omega) (show (0 : Int) ≤ aa.nx.length by omega)
      rw [Int.add_mul] at this; omega
    have e2 : (x * aa.nx.length + u + 1) * p.nx.length ≤ z * aa.nx.length * p.nx.length := Int.mul_le_mul_of_nonneg_right e1 (by omega)
    have e3 : 0 ≤ (x * aa.nx.length + u) * p.nx.length := Int.mul_nonneg (Int.add_nonneg (Int.mul_nonneg x1 (by omega)) i1.1) (by omega)
    rw [Int.add_mul, Int.add_mul] at e2
    rw [Int.add_mul] at e3
    omega
theorem bNext_len {ps : List Ts} (aa p : Au) (hs : ∀ s ∈ ps, sysOk s = true) (hl : ps.length ≤ 3) {n : Int} (h0 : 0 ≤ n) (l : Int) : (bNext ps aa p n l).length ≤ 4096 := by
  have := (pnext_in hs hl (l := l) (node := n / p.nx.length / aa.nx.length) (Int.ediv_nonneg (Int.ediv_nonneg h0 (by omega)) (by omega))).1
  unfold bNext
  rw [List.length_map]
  exact this
theorem tab_cells (a : Au) : cellsOf (tab a) = some [tab a] := (rfl)
theorem impl_firstBroken0 (hg : lookG gl 1 = .cptr deBruijn) (ps : List Ts) (p : Au) (hl : partsOk ps = true) (hel : ∀ s ∈ ps, s.ed.length ≤ 1048576) (hp : autOk p = true) :
    Pure Tryz.prog gl 69 [systems ps, .raw (.pointer none), .agg (eA p)] (resW (firstOf (bSys ps triv p))) := by
  have hlen := partsOk_len hl
  refine Pure.of (callWp_of (cf := ⟨57, [0, 1, 2, 4, 5, 6, 7, 8, 9, 10, 11, 12, 13, 14, 15, 21], [4], [4, 5, 8, 10, 11, 12, 13, 25]⟩) (rs := [.tmp 6, .tmp 7]) Tryz.func69 rfl (by decide) rfl rfl (by simp) ?_)
  simp only [go_sem, Nat.reduceBEq, Nat.reduceLT, Nat.reduceAdd, Nat.reduceMul, Nat.reduceSub, Nat.reduceLeDiff, decide_true, ne_eq, Nat.reduceEqDiff, not_false_eq_true, Classical.not_not, Int.lt_irrefl, false_implies]
  intro b4
  refine (impl_newParts ps (by omega) fun s hs => ⟨partsOk_all hl s hs, hel s hs⟩).call ?_
  simp only [go_sem, Nat.reduceBEq, Nat.reduceLT, Nat.reduceAdd, Nat.reduceMul, Nat.reduceSub, Nat.reduceLeDiff, decide_true, ne_eq, Nat.reduceEqDiff, not_false_eq_true, Classical.not_not, Int.lt_irrefl, false_implies]
  intro b8 ⟨n1, n2⟩
  have f1 := beq_false_of_ne n1
  have f2 := beq_false_of_ne n2
  refine (impl_PartsAlphabet ps (by omega) hel).call ?_
  simp only [go_sem, Nat.reduceBEq, Nat.reduceLT, Nat.reduceAdd, Nat.reduceMul, Nat.reduceSub, Nat.reduceLeDiff, decide_true, ne_eq, Nat.reduceEqDiff, not_false_eq_true, Classical.not_not, Int.lt_irrefl, false_implies, f1, f2]
  have hsee : ∀ σ : Store, SeesAll gl σ [AV.raw (.int .i64 0), .list 1 [[.raw (.slice none 0 0)]], .list 1 [[.raw (.bool true)]]] (eA triv) := fun σ =>
    ⟨Sees.refl _, Sees.list1 Sees.nil, Sees.refl _, trivial⟩
  have ha := triv_ok
  generalize triv = aa at *
  refine DrawK.recast [] ((8, .cptr (eP ps)) :: (4, .cptr [.cptr (eA aa)]) :: _) ((Recast.fix _ _).trans ((Recast.fixd (k := 4) (cs := [.cptr [AV.raw (.int .i64 0), .list 1 [[.raw (.slice none 0 0)]], .list 1 [[.raw (.bool true)]]]]) (cs' := [.cptr (eA aa)]) rfl (by simp [fixO, AX.look, f2]) ⟨Sees.cptr (hsee _), trivial⟩).trans ((Recast.fixd (k := 8) (cs := eP ps) rfl (by simp [fixO, AX.look]; rfl) (seesAll_rfl _)).trans (Recast.drop _ _)))) ?_
  refine DrawK.text mixed (by kernel_rfl) ?_
  simp only [go_sem, Nat.reduceBEq, Nat.reduceLT, Nat.reduceAdd, Nat.reduceMul, Nat.reduceSub, Nat.reduceLeDiff, decide_true, ne_eq, Nat.reduceEqDiff, not_false_eq_true, Classical.not_not, Int.lt_irrefl, false_implies]
  refine ⟨_, impl_tableOf aa ha, ?_⟩
  simp only [go_sem, Nat.reduceBEq, Nat.reduceLT, Nat.reduceAdd, Nat.reduceMul, Nat.reduceSub, Nat.reduceLeDiff, decide_true, ne_eq, Nat.reduceEqDiff, not_false_eq_true, Classical.not_not, Int.lt_irrefl, false_implies]
  refine ⟨_, impl_tableOf p hp, ?_⟩
  simp only [go_sem, Nat.reduceBEq, Nat.reduceLT, Nat.reduceAdd, Nat.reduceMul, Nat.reduceSub, Nat.reduceLeDiff, decide_true, ne_eq, Nat.reduceEqDiff, not_false_eq_true, Classical.not_not, Int.lt_irrefl, false_implies, tab_cells]
  intro b10 b11 ⟨m1, m2⟩
  have h1 := beq_false_of_ne m1
  have h2 := beq_false_of_ne m2
  simp only [go_sem, Nat.reduceBEq, Nat.reduceLT, Nat.reduceAdd, Nat.reduceMul, Nat.reduceSub, Nat.reduceLeDiff, decide_true, ne_eq, Nat.reduceEqDiff, not_false_eq_true, Classical.not_not, Int.lt_irrefl, false_implies, h1, h2, tab_cells]
  refine DrawK.recast [] ((11, .cptr [tab p]) :: (10, .cptr [tab aa]) :: _) ((Recast.fix _ _).trans ((Recast.fixd (k := 10) (cs := [tab aa]) rfl (by simp [fixO, AX.look, h2]) (seesAll_rfl _)).trans ((Recast.fixd (k := 11) (cs := [tab p]) rfl (by simp [fixO, AX.look]) (seesAll_rfl _)).trans (Recast.drop _ _)))) ?_
  refine DrawK.text mixed (by kernel_rfl) ?_
  simp only [go_sem, Nat.reduceBEq, Nat.reduceLT, Nat.reduceAdd, Nat.reduceMul, Nat.reduceSub, Nat.reduceLeDiff, decide_true, ne_eq, Nat.reduceEqDiff, not_false_eq_true, Classical.not_not, Int.lt_irrefl, false_implies, tab]
  intro b12 b13 ⟨m3, m4⟩
  have h3 := beq_false_of_ne m3
  have h4 := beq_false_of_ne m4
  simp only [go_sem, Nat.reduceBEq, Nat.reduceLT, Nat.reduceAdd, Nat.reduceMul, Nat.reduceSub, Nat.reduceLeDiff, decide_true, ne_eq, Nat.reduceEqDiff, not_false_eq_true, Classical.not_not, Int.lt_irrefl, false_implies, h3, h4, List.length_range]
  have s12 : ∀ n m : Int, Sees gl (([(b13, .own [.int n]), (b12, .own [.int m])] : Store).map fixO) (.ptr b12 0) (.cptr [.int m]) := fun n m => Sees.fixd (by simp [fixO, AX.look, h4])
  have s13 : ∀ n m : Int, Sees gl (([(b13, .own [.int n]), (b12, .own [.int m])] : Store).map fixO) (.ptr b13 0) (.cptr [.int n]) := fun n m => Sees.fixd (by simp [fixO, AX.look])
  refine DrawK.recast [] ((15, .clos (.func 84) [] [.cptr [.cptr (eA aa)], .cptr [.int p.nx.length], .cptr [.int aa.nx.length], .cptr (eA p)]) :: (14, .clos (.func 82) [] [.cptr [tab aa], .cptr [.int p.nx.length], .cptr [.int aa.nx.length], .cptr [tab p], .cptr (eP ps)]) :: (13, .cptr [.int p.nx.length]) :: (12, .cptr [.int aa.nx.length]) :: _)
    ((Recast.fix _ _).trans ((Recast.sees (k := 12) rfl (s12 _ _)).trans ((Recast.sees (k := 13) rfl (s13 _ _)).trans ((Recast.sees (k := 14) rfl (by exact Sees.clos (by exact trivial) (by exact ⟨Sees.refl _, s13 _ _, s12 _ _, Sees.refl _, Sees.refl _, trivial⟩))).trans ((Recast.sees (k := 15) rfl (by exact Sees.clos (by exact trivial) (by exact ⟨Sees.refl _, s13 _ _, s12 _ _, Sees.refl _, trivial⟩))).trans (Recast.drop _ _)))))) ?_
  obtain ⟨hy, hN, hNi⟩ := bSys_ok (fun s hs => partsOk_all hl s hs) (by omega) ha hp
  refine DrawK.text mixed (by kernel_rfl) ?_
  simp only [go_sem, Nat.reduceBEq, Nat.reduceLT, Nat.reduceAdd, Nat.reduceMul, Nat.reduceSub, Nat.reduceLeDiff, decide_true, ne_eq, Nat.reduceEqDiff, not_false_eq_true, Classical.not_not, Int.lt_irrefl, false_implies]
  refine ⟨_, impl_size ps (by omega) (fun s hs => partsOk_all hl s hs), ?_⟩
  simp only [go_sem, Nat.reduceBEq, Nat.reduceLT, Nat.reduceAdd, Nat.reduceMul, Nat.reduceSub, Nat.reduceLeDiff, decide_true, ne_eq, Nat.reduceEqDiff, not_false_eq_true, Classical.not_not, Int.lt_irrefl, false_implies]
  have hz := szP_pos (fun s hs => partsOk_all hl s hs) ps.length (Nat.le_refl _)
  rw [List.take_length] at hz
  have h16 : (16 : Int) ^ ps.length ≤ 4096 := by
    have : ps.length = 0 ∨ ps.length = 1 ∨ ps.length = 2 ∨ ps.length = 3 := by omega
    rcases this with h | h | h | h <;> rw [h] <;> decide
  obtain ⟨a1, a2, _⟩ := autOk_len ha
  have ha63 := autOk_al ha
  have hp63 := partsAl_ok hl
  have hm1 : 1 * 1 ≤ szP ps * aa.nx.length ∧ szP ps * aa.nx.length ≤ 4096 * 12 := ⟨Int.mul_le_mul (by omega) (by omega) (by omega) (by omega), Int.mul_le_mul (by omega) (by omega) (by omega) (by omega)⟩
  have hlor := lor_le hp63 ha63
  refine ⟨⟨by omega, by omega⟩, ⟨by omega, by omega⟩, ⟨by omega, by omega, by omega, by omega⟩, _, impl_lettersOf (lor (partsAl ps) aa.al) (by omega), ?_⟩
  simp only [go_sem, Nat.reduceBEq, Nat.reduceLT, Nat.reduceAdd, Nat.reduceMul, Nat.reduceSub, Nat.reduceLeDiff, decide_true, ne_eq, Nat.reduceEqDiff, not_false_eq_true, Classical.not_not, Int.lt_irrefl, false_implies]
  have hfp := impl_firstPath (gl := gl) (bSys ps aa p) (bNext ps aa p) (bGoal aa p) (bSize ps aa p) [0] hy ⟨hN.1, by omega⟩ (lettersUp_length _ _) (by simp) 82 [.cptr [tab aa], .cptr [.int p.nx.length], .cptr [.int aa.nx.length], .cptr [tab p], .cptr (eP ps)] 84 [.cptr [.cptr (eA aa)], .cptr [.int p.nx.length], .cptr [.int aa.nx.length], .cptr (eA p)]
    (fun n l xs out τ h1 h2 h3 h4 => impl_bNext hg ps aa p (by omega) (fun s hs => partsOk_all hl s hs) ha hp n l ⟨h1.1, by omega⟩ (letters_6 _ l h2) xs out τ h3 h4)
    (fun n l h1 h2 => bNext_len aa p (fun s hs => partsOk_all hl s hs) (by omega) h1.1 l) (fun n h1 => impl_bGoal aa p ha hp n ⟨h1.1, by omega⟩)
  rw [hNi] at hfp
  refine ⟨_, hfp, ?_⟩
  simp only [go_sem, Nat.reduceBEq, Nat.reduceLT, Nat.reduceAdd, Nat.reduceMul, Nat.reduceSub, Nat.reduceLeDiff, decide_true, ne_eq, Nat.reduceEqDiff, not_false_eq_true, Classical.not_not, Int.lt_irrefl, false_implies, resW]
  exact Sees.refl _
theorem impl_firstBroken1 (hg : lookG gl 1 = .cptr deBruijn) (ps : List Ts) (aa p : Au) (hl : partsOk ps = true) (hel : ∀ s ∈ ps, s.ed.length ≤ 1048576) (ha : autOk aa = true) (hp : autOk p = true) :
    Pure Tryz.prog gl 69 [systems ps, .cptr (eA aa), .agg (eA p)] (resW (firstOf (bSys ps aa p))) := by
  have hlen := partsOk_len hl
  refine Pure.of (callWp_of (cf := ⟨57, [0, 1, 2, 4, 5, 6, 7, 8, 9, 10, 11, 12, 13, 14, 15, 21], [4], [4, 5, 8, 10, 11, 12, 13, 25]⟩) (rs := [.tmp 6, .tmp 7]) Tryz.func69 rfl (by decide) rfl rfl (by simp) ?_)
  simp only [go_sem, Nat.reduceBEq, Nat.reduceLT, Nat.reduceAdd, Nat.reduceMul, Nat.reduceSub, Nat.reduceLeDiff, decide_true, ne_eq, Nat.reduceEqDiff, not_false_eq_true, Classical.not_not, Int.lt_irrefl, false_implies]
  intro b4
  refine (impl_newParts ps (by omega) fun s hs => ⟨partsOk_all hl s hs, hel s hs⟩).call ?_
  simp only [go_sem, Nat.reduceBEq, Nat.reduceLT, Nat.reduceAdd, Nat.reduceMul, Nat.reduceSub, Nat.reduceLeDiff, decide_true, ne_eq, Nat.reduceEqDiff, not_false_eq_true, Classical.not_not, Int.lt_irrefl, false_implies]
  intro b8 ⟨n1, n2⟩
  have f1 := beq_false_of_ne n1
  have f2 := beq_false_of_ne n2
  refine (impl_PartsAlphabet ps (by omega) hel).call ?_
  simp only [go_sem, Nat.reduceBEq, Nat.reduceLT, Nat.reduceAdd, Nat.reduceMul, Nat.reduceSub, Nat.reduceLeDiff, decide_true, ne_eq, Nat.reduceEqDiff, not_false_eq_true, Classical.not_not, Int.lt_irrefl, false_implies, f1, f2]
  refine DrawK.recast [] ((8, .cptr (eP ps)) :: (4, .cptr [.cptr (eA aa)]) :: _) ((Recast.fix _ _).trans ((Recast.fixd (k := 4) (cs := [.cptr (eA aa)]) (cs' := [.cptr (eA aa)]) rfl (by simp [fixO, AX.look, f2]; rfl) (seesAll_rfl _)).trans ((Recast.fixd (k := 8) (cs := eP ps) rfl (by simp [fixO, AX.look]; rfl) (seesAll_rfl _)).trans (Recast.drop _ _)))) ?_
  refine DrawK.text mixed (by kernel_rfl) ?_
  simp only [go_sem, Nat.reduceBEq, Nat.reduceLT, Nat.reduceAdd, Nat.reduceMul, Nat.reduceSub, Nat.reduceLeDiff, decide_true, ne_eq, Nat.reduceEqDiff, not_false_eq_true, Classical.not_not, Int.lt_irrefl, false_implies]
  refine ⟨_, impl_tableOf aa ha, ?_⟩
  simp only [go_sem, Nat.reduceBEq, Nat.reduceLT, Nat.reduceAdd, Nat.reduceMul, Nat.reduceSub, Nat.reduceLeDiff, decide_true, ne_eq, Nat.reduceEqDiff, not_false_eq_true, Classical.not_not, Int.lt_irrefl, false_implies]
  refine ⟨_, impl_tableOf p hp, ?_⟩
  simp only [go_sem, Nat.reduceBEq, Nat.reduceLT, Nat.reduceAdd, Nat.reduceMul, Nat.reduceSub, Nat.reduceLeDiff, decide_true, ne_eq, Nat.reduceEqDiff, not_false_eq_true, Classical.not_not, Int.lt_irrefl, false_implies, tab_cells]
  intro b10 b11 ⟨m1, m2⟩
  have h1 := beq_false_of_ne m1
  have h2 := beq_false_of_ne m2
  simp only [go_sem, Nat.reduceBEq, Nat.reduceLT, Nat.reduceAdd, Nat.reduceMul, Nat.reduceSub, Nat.reduceLeDiff, decide_true, ne_eq, Nat.reduceEqDiff, not_false_eq_true, Classical.not_not, Int.lt_irrefl, false_implies, h1, h2, tab_cells]
  refine DrawK.recast [] ((11, .cptr [tab p]) :: (10, .cptr [tab aa]) :: _) ((Recast.fix _ _).trans ((Recast.fixd (k := 10) (cs := [tab aa]) rfl (by simp [fixO, AX.look, h2]) (seesAll_rfl _)).trans ((Recast.fixd (k := 11) (cs := [tab p]) rfl (by simp [fixO, AX.look]) (seesAll_rfl _)).trans (Recast.drop _ _)))) ?_
  refine DrawK.text mixed (by kernel_rfl) ?_
  simp only [go_sem, Nat.reduceBEq, Nat.reduceLT, Nat.reduceAdd, Nat.reduceMul, Nat.reduceSub, Nat.reduceLeDiff, decide_true, ne_eq, Nat.reduceEqDiff, not_false_eq_true, Classical.not_not, Int.lt_irrefl, false_implies, tab]
  intro b12 b13 ⟨m3, m4⟩
  have h3 := beq_false_of_ne m3
  have h4 := beq_false_of_ne m4
  simp only [go_sem, Nat.reduceBEq, Nat.reduceLT, Nat.reduceAdd, Nat.reduceMul, Nat.reduceSub, Nat.reduceLeDiff, decide_true, ne_eq, Nat.reduceEqDiff, not_false_eq_true, Classical.not_not, Int.lt_irrefl, false_implies, h3, h4, List.length_range]
  have s12 : ∀ n m : Int, Sees gl (([(b13, .own [.int n]), (b12, .own [.int m])] : Store).map fixO) (.ptr b12 0) (.cptr [.int m]) := fun n m => Sees.fixd (by simp [fixO, AX.look, h4])
  have s13 : ∀ n m : Int, Sees gl (([(b13, .own [.int n]), (b12, .own [.int m])] : Store).map fixO) (.ptr b13 0) (.cptr [.int n]) := fun n m => Sees.fixd (by simp [fixO, AX.look])
  refine DrawK.recast [] ((15, .clos (.func 84) [] [.cptr [.cptr (eA aa)], .cptr [.int p.nx.length], .cptr [.int aa.nx.length], .cptr (eA p)]) :: (14, .clos (.func 82) [] [.cptr [tab aa], .cptr [.int p.nx.length], .cptr [.int aa.nx.length], .cptr [tab p], .cptr (eP ps)]) :: (13, .cptr [.int p.nx.length]) :: (12, .cptr [.int aa.nx.length]) :: _)
    ((Recast.fix _ _).trans ((Recast.sees (k := 12) rfl (s12 _ _)).trans ((Recast.sees (k := 13) rfl (s13 _ _)).trans ((Recast.sees (k := 14) rfl (by exact Sees.clos (by exact trivial) (by exact ⟨Sees.refl _, s13 _ _, s12 _ _, Sees.refl _, Sees.refl _, trivial⟩))).trans ((Recast.sees (k := 15) rfl (by exact Sees.clos (by exact trivial) (by exact ⟨Sees.refl _, s13 _ _, s12 _ _, Sees.refl _, trivial⟩))).trans (Recast.drop _ _)))))) ?_
  obtain ⟨hy, hN, hNi⟩ := bSys_ok (fun s hs => partsOk_all hl s hs) (by omega) ha hp
  refine DrawK.text mixed (by kernel_rfl) ?_
  simp only [go_sem, Nat.reduceBEq, Nat.reduceLT, Nat.reduceAdd, Nat.reduceMul, Nat.reduceSub, Nat.reduceLeDiff, decide_true, ne_eq, Nat.reduceEqDiff, not_false_eq_true, Classical.not_not, Int.lt_irrefl, false_implies]
  refine ⟨_, impl_size ps (by omega) (fun s hs => partsOk_all hl s hs), ?_⟩
  simp only [go_sem, Nat.reduceBEq, Nat.reduceLT, Nat.reduceAdd, Nat.reduceMul, Nat.reduceSub, Nat.reduceLeDiff, decide_true, ne_eq, Nat.reduceEqDiff, not_false_eq_true, Classical.not_not, Int.lt_irrefl, false_implies]
  have hz := szP_pos (fun s hs => partsOk_all hl s hs) ps.length (Nat.le_refl _)
  rw [List.take_length] at hz
  have h16 : (16 : Int) ^ ps.length ≤ 4096 := by
    have : ps.length = 0 ∨ ps.length = 1 ∨ ps.length = 2 ∨ ps.length = 3 := by omega
    rcases this with h | h | h | h <;> rw [h] <;> decide
  obtain ⟨a1, a2, _⟩ := autOk_len ha
  have ha63 := autOk_al ha
  have hp63 := partsAl_ok hl
  have hm1 : 1 * 1 ≤ szP ps * aa.nx.length ∧ szP ps * aa.nx.length ≤ 4096 * 12 := ⟨Int.mul_le_mul (by omega) (by omega) (by omega) (by omega), Int.mul_le_mul (by omega) (by omega) (by omega) (by omega)⟩
  have hlor := lor_le hp63 ha63
  refine ⟨⟨by omega, by omega⟩, ⟨by omega, by omega⟩, ⟨by omega, by omega, by omega, by omega⟩, _, impl_lettersOf (lor (partsAl ps) aa.al) (by omega), ?_⟩
  simp only [go_sem, Nat.reduceBEq, Nat.reduceLT, Nat.reduceAdd, Nat.reduceMul, Nat.reduceSub, Nat.reduceLeDiff, decide_true, ne_eq, Nat.reduceEqDiff, not_false_eq_true, Classical.not_not, Int.lt_irrefl, false_implies]
  have hfp := impl_firstPath (gl := gl) (bSys ps aa p) (bNext ps aa p) (bGoal aa p) (bSize ps aa p) [0] hy ⟨hN.1, by omega⟩ (lettersUp_length _ _) (by simp) 82 [.cptr [tab aa], .cptr [.int p.nx.length], .cptr [.int aa.nx.length], .cptr [tab p], .cptr (eP ps)] 84 [.cptr [.cptr (eA aa)], .cptr [.int p.nx.length], .cptr [.int aa.nx.length], .cptr (eA p)]
    (fun n l xs out τ h1 h2 h3 h4 => impl_bNext hg ps aa p (by omega) (fun s hs => partsOk_all hl s hs) ha hp n l ⟨h1.1, by omega⟩ (letters_6 _ l h2) xs out τ h3 h4)
    (fun n l h1 h2 => bNext_len aa p (fun s hs => partsOk_all hl s hs) (by omega) h1.1 l) (fun n h1 => impl_bGoal aa p ha hp n ⟨h1.1, by omega⟩)
  rw [hNi] at hfp
  refine ⟨_, hfp, ?_⟩
  simp only [go_sem, Nat.reduceBEq, Nat.reduceLT, Nat.reduceAdd, Nat.reduceMul, Nat.reduceSub, Nat.reduceLeDiff, decide_true, ne_eq, Nat.reduceEqDiff, not_false_eq_true, Classical.not_not, Int.lt_irrefl, false_implies, resW]
  exact Sees.refl _
end Go.Proofs
end
section
/- Contracts: the impl's violations and repairs. -/
namespace Go.AX
open Go
section
variable {P : Program} {gl : Globs}
theorem Pure.lendP {f : FuncId} {us bs : List AV} {r : AV} {τ σ σ0 : Store} {K : AV → Store → Prop} (h : Pure P gl f bs r) (hv : GhAll gl τ us bs) (hf : flatA r = true) (hp : (τ ++ σ).Perm σ0) (hk : K r σ0) : CallWp P gl f us σ0 K :=
  (CallWp.post0 (CallWp.perm hp (Pure.lend (K := fun x σ' => x = r ∧ σ' = τ ++ σ) h hv hf ⟨rfl, rfl⟩)) hp).mono fun x σ' ⟨h1, h2⟩ => by subst h1 h2; exact hk
theorem CallWp.subP {f : FuncId} {us : List AV} {σ0 : Store} {K : AV → Store → Prop} (h : CallWp P gl f us σ0 fun r σ => ∃ τ, τ.Sublist σ ∧ K r τ) : CallWp P gl f us σ0 K :=
  ⟨h.1, fun w M vs hI hr => (h.2 w M vs hI hr).mono fun _ _ ⟨v, M', r, σ', h1, ⟨τ, hs, hk⟩, h3, h4⟩ => ⟨v, M', r, τ, h1, hk, h3.sub hs, h4⟩⟩
theorem Buf.pushB {sz xs out τ} (h : Buf sz xs out τ) {te : TyI} {row : List AV} {σ σ0 τp : Store} {K : AV → Store → Prop} (hd : Dj τp τ) (hσ : σ0 = τp ++ (τ ++ σ)) (hsz : te.sz = sz) (h0 : 0 < sz) (hr : row.length = sz) (hb : xs.length < 1073741824 ∧ te.by_ ≤ 65536)
    (hk : ∀ out' τ', Buf sz (xs ++ [row]) out' τ' → Dj τ' (τp ++ σ) → K out' (τ' ++ (τp ++ σ))) : appendWp true te out (.list sz [row]) σ0 K := by
  subst hσ
  have h2 := Buf.push (σ := τp ++ σ) h rfl hsz h0 hr hb hk
  rcases h with ⟨_, _, rfl⟩ | ⟨b, c, rest, rfl, rfl, _⟩
  · exact h2
  · unfold appendWp at h2 ⊢
    have hx : ∀ s : Store, rowsIn s te.sz (.list sz [row]) = some [row] := fun s => by simp [rowsIn, hsz]
    rw [hx] at h2 ⊢
    simp only [List.cons_append, List.nil_append] at h2 ⊢
    rw [hd.look, hd.del]
    simpa [AX.look, AX.del] using h2
end
end Go.AX
namespace Go.Proofs
open Go.AX AG
variable {gl : Globs}
set_option maxRecDepth 10000
set_option linter.unusedSimpArgs false

theorem impl_PartsViolation (hg : lookG gl 1 = .cptr deBruijn) (l : List Ts) (p : Au) (hll : l.length ≤ 1048576) (hl : ∀ s ∈ l, s.ed.length ≤ 1048576) (h1 : p.nx.length ≤ 1048576) (h2 : ∀ r ∈ p.nx, r.length ≤ 1048576) :
    Pure Tryz.prog gl 56 [systems l, .agg (eA p)] (resW (violW l p)) := by
  refine callWp_of (cf := ⟨19, [0, 1, 3, 4, 5, 13], [], [3]⟩) (rs := [.tmp 4, .tmp 5]) Tryz.func56 rfl (by decide) rfl rfl (by simp) ?_
  simp only [go_sem, Nat.reduceBEq, Nat.reduceLT, Nat.reduceAdd, Nat.reduceMul, Nat.reduceSub, Nat.reduceLeDiff, decide_true, ne_eq, Nat.reduceEqDiff, not_false_eq_true, Classical.not_not, Int.lt_irrefl, false_implies]
  refine (impl_areParts l hll hl).call ?_
  cases hok : partsOk l
  · simp only [go_sem, Nat.reduceBEq, Nat.reduceLT, Nat.reduceAdd, Nat.reduceMul, Nat.reduceSub, Nat.reduceLeDiff, decide_true, ne_eq, Nat.reduceEqDiff, not_false_eq_true, Classical.not_not, Int.lt_irrefl, false_implies]
    simp [violW, hok, resW, txt]
  simp only [go_sem, Nat.reduceBEq, Nat.reduceLT, Nat.reduceAdd, Nat.reduceMul, Nat.reduceSub, Nat.reduceLeDiff, decide_true, ne_eq, Nat.reduceEqDiff, not_false_eq_true, Classical.not_not, Int.lt_irrefl, false_implies]
  refine (impl_AutomatonValid p h1 h2).call ?_
  cases hp : autOk p
  · simp only [go_sem, Nat.reduceBEq, Nat.reduceLT, Nat.reduceAdd, Nat.reduceMul, Nat.reduceSub, Nat.reduceLeDiff, decide_true, ne_eq, Nat.reduceEqDiff, not_false_eq_true, Classical.not_not, Int.lt_irrefl, false_implies]
    simp [violW, hok, hp, resW, txt]
  simp only [go_sem, Nat.reduceBEq, Nat.reduceLT, Nat.reduceAdd, Nat.reduceMul, Nat.reduceSub, Nat.reduceLeDiff, decide_true, ne_eq, Nat.reduceEqDiff, not_false_eq_true, Classical.not_not, Int.lt_irrefl, false_implies]
  refine (impl_firstBroken0 hg l p hok hl hp).call ?_
  have hv := viol_parts (p := p) hl
  rw [hok, hp] at hv
  rw [hv]
  simp only [go_sem, Nat.reduceBEq, Nat.reduceLT, Nat.reduceAdd, Nat.reduceMul, Nat.reduceSub, Nat.reduceLeDiff, decide_true, ne_eq, Nat.reduceEqDiff, not_false_eq_true, Classical.not_not, Int.lt_irrefl, false_implies, resW]
  rfl
theorem impl_PartsKeep (hg : lookG gl 1 = .cptr deBruijn) (l : List Ts) (p : Au) (hll : l.length ≤ 1048576) (hl : ∀ s ∈ l, s.ed.length ≤ 1048576) (h1 : p.nx.length ≤ 1048576) (h2 : ∀ r ∈ p.nx, r.length ≤ 1048576) :
    Pure Tryz.prog gl 31 [systems l, .agg (eA p)] (.bool (keeps l p)) := by
  refine callWp_of (cf := ⟨23, [0, 1, 3, 4, 6], [], [3]⟩) (rs := [.tmp 4]) Tryz.func31 rfl (by decide) rfl rfl (by simp) ?_
  simp only [go_sem, Nat.reduceBEq, Nat.reduceLT, Nat.reduceAdd, Nat.reduceMul, Nat.reduceSub, Nat.reduceLeDiff, decide_true, ne_eq, Nat.reduceEqDiff, not_false_eq_true, Classical.not_not, Int.lt_irrefl, false_implies]
  refine (impl_PartsViolation hg l p hll hl h1 h2).call ?_
  simp only [go_sem, Nat.reduceBEq, Nat.reduceLT, Nat.reduceAdd, Nat.reduceMul, Nat.reduceSub, Nat.reduceLeDiff, decide_true, ne_eq, Nat.reduceEqDiff, not_false_eq_true, Classical.not_not, Int.lt_irrefl, false_implies, resW]
  refine (impl_areParts l hll hl).call ?_
  cases hok : partsOk l
  · simp only [go_sem, Nat.reduceBEq, Nat.reduceLT, Nat.reduceAdd, Nat.reduceMul, Nat.reduceSub, Nat.reduceLeDiff, decide_true, ne_eq, Nat.reduceEqDiff, not_false_eq_true, Classical.not_not, Int.lt_irrefl, false_implies]
    simp [keeps, hok]
  simp only [go_sem, Nat.reduceBEq, Nat.reduceLT, Nat.reduceAdd, Nat.reduceMul, Nat.reduceSub, Nat.reduceLeDiff, decide_true, ne_eq, Nat.reduceEqDiff, not_false_eq_true, Classical.not_not, Int.lt_irrefl, false_implies]
  refine (impl_AutomatonValid p h1 h2).call ?_
  cases hp : autOk p
  · simp only [go_sem, Nat.reduceBEq, Nat.reduceLT, Nat.reduceAdd, Nat.reduceMul, Nat.reduceSub, Nat.reduceLeDiff, decide_true, ne_eq, Nat.reduceEqDiff, not_false_eq_true, Classical.not_not, Int.lt_irrefl, false_implies]
    simp [keeps, hok, hp]
  simp only [go_sem, Nat.reduceBEq, Nat.reduceLT, Nat.reduceAdd, Nat.reduceMul, Nat.reduceSub, Nat.reduceLeDiff, decide_true, ne_eq, Nat.reduceEqDiff, not_false_eq_true, Classical.not_not, Int.lt_irrefl, false_implies]
  simp [keeps, hok, hp]
theorem impl_RepairEdges (hg : lookG gl 1 = .cptr deBruijn) (l : List Ts) (p : Au) (part : Int) (hll : l.length ≤ 1048576) (hl : ∀ s ∈ l, s.ed.length ≤ 1048576) (h1 : p.nx.length ≤ 1048576) (h2 : ∀ r ∈ p.nx, r.length ≤ 1048576) :
    CallWp Tryz.prog gl 9 [systems l, .agg (eA p), .int part] [] fun r σ => Buf 3 ((repair l p part).map eE) r σ := by
  refine CallWp.subP (callWp_of (cf := ⟨62, [0, 1, 2, 4, 6, 7, 8, 10, 28, 35, 36, 37, 38, 55], [8, 10, 59], [4]⟩) (rs := [.tmp 6]) Tryz.func9 rfl (by decide) rfl rfl (by simp) ?_)
  simp only [go_sem, Nat.reduceBEq, Nat.reduceLT, Nat.reduceAdd, Nat.reduceMul, Nat.reduceSub, Nat.reduceLeDiff, decide_true, ne_eq, Nat.reduceEqDiff, not_false_eq_true, Classical.not_not, Int.lt_irrefl, false_implies]
  refine (impl_areParts l hll hl).call ?_
  have hbad : ¬ ((partsOk l && autOk p) = true ∧ 0 ≤ part ∧ part < l.length) → ∃ τ : Store, τ.Sublist [] ∧ Buf 3 ((repair l p part).map eE) .nils τ := fun h => by
    rw [repair, if_neg h]; exact ⟨[], List.nil_sublist _, Buf.nil 3⟩
  cases hok : partsOk l
  · simp only [go_sem, Nat.reduceBEq, Nat.reduceLT, Nat.reduceAdd, Nat.reduceMul, Nat.reduceSub, Nat.reduceLeDiff, decide_true, ne_eq, Nat.reduceEqDiff, not_false_eq_true, Classical.not_not, Int.lt_irrefl, false_implies]
    exact hbad (by simp [hok])
  have hlen := partsOk_len hok
  simp only [go_sem, Nat.reduceBEq, Nat.reduceLT, Nat.reduceAdd, Nat.reduceMul, Nat.reduceSub, Nat.reduceLeDiff, decide_true, ne_eq, Nat.reduceEqDiff, not_false_eq_true, Classical.not_not, Int.lt_irrefl, false_implies]
  refine (impl_AutomatonValid p h1 h2).call ?_
  cases hp : autOk p
  · simp only [go_sem, Nat.reduceBEq, Nat.reduceLT, Nat.reduceAdd, Nat.reduceMul, Nat.reduceSub, Nat.reduceLeDiff, decide_true, ne_eq, Nat.reduceEqDiff, not_false_eq_true, Classical.not_not, Int.lt_irrefl, false_implies]
    exact hbad (by simp [hp])
  simp only [go_sem, Nat.reduceBEq, Nat.reduceLT, Nat.reduceAdd, Nat.reduceMul, Nat.reduceSub, Nat.reduceLeDiff, decide_true, ne_eq, Nat.reduceEqDiff, not_false_eq_true, Classical.not_not, Int.lt_irrefl, false_implies]
  refine ⟨fun h => hbad (by omega), fun h0 => ⟨fun h => hbad (by omega), fun h3 => ?_⟩⟩
  obtain ⟨pt, rfl⟩ := Int.eq_ofNat_of_zero_le (show 0 ≤ part by omega)
  obtain ⟨s, hs⟩ : ∃ s, l[pt]? = some s := ⟨_, List.getElem?_eq_getElem (by omega)⟩
  have hsl := hl s (List.mem_of_getElem? hs)
  have hsok := partsOk_all hok s (List.mem_of_getElem? hs)
  have hrep : repair l p pt = repUp l p pt s s.ed.length := by rw [repair, if_pos ⟨by simp [hok, hp], by omega, by omega⟩]; simp [hs]
  have hne : l ≠ [] := fun h => by rw [h] at hs; simp at hs
  refine CallWp.frame0 ((lib_CloneS l hne hll).mono ?_)
  rintro r σ ⟨bc, c, rest, rfl, rfl, hc, hcl⟩ hd
  simp only [go_sem, Nat.reduceBEq, Nat.reduceLT, Nat.reduceAdd, Nat.reduceMul, Nat.reduceSub, Nat.reduceLeDiff, decide_true, ne_eq, Nat.reduceEqDiff, not_false_eq_true, Classical.not_not, Int.lt_irrefl, false_implies, hs]
  refine LoopWp.byT (fun m ρ σ => ∃ (k : Nat) (out : AV) (τ : Store) (x : Ts), Buf 3 ((repUp l p pt s k).map eE) out τ ∧ Dj τ [(bc, .own (((l.set pt x).map eS).flatten ++ rest))] ∧ get ρ 0 = systems l ∧ get ρ 2 = .int pt ∧ get ρ 4 = .cptr (eA p) ∧ get ρ 7 = out ∧ get ρ 8 = .msl bc 0 l.length c ∧ get ρ 35 = edges s.ed ∧ get ρ 36 = .int s.ed.length ∧ get ρ 37 = .int k ∧ k ≤ s.ed.length ∧
      σ = τ ++ [(bc, .own (((l.set pt x).map eS).flatten ++ rest))] ∧ m = s.ed.length - k) s.ed.length ?_ ?_
  · have hset : l.set pt s = l := List.ext_getElem? fun i => by
      rw [List.getElem?_set]
      split
      · rename_i h; subst h; split
        · exact hs.symm
        · rename_i h; exact absurd (List.getElem?_eq_some_iff.1 hs).1 h
      · rfl
    exact ⟨_, Turn.refl _, 0, .nils, [], s, Buf.nil 3, Dj.nil _, rfl, rfl, rfl, rfl, rfl, rfl, rfl, rfl, by omega, by rw [hset]; rfl, by omega⟩
  rintro m ρ σ ⟨k, out, τ, x, hB, hD, g0, g2, g4, g7, g8, g35, g36, g37, hk, rfl, rfl⟩
  have hrl : ((l.set pt x).map eS).flatten.length = l.length * 3 := by rw [flat_len (sz := 3) (fun _ => rfl)]; simp
  by_cases hlt : k < s.ed.length
  · obtain ⟨e, he⟩ : ∃ e, s.ed[k]? = some e := ⟨_, List.getElem?_eq_getElem hlt⟩
    simp only [go_sem, Nat.reduceBEq, Nat.reduceLT, Nat.reduceAdd, Nat.reduceMul, Nat.reduceSub, Nat.reduceLeDiff, decide_true, ne_eq, Nat.reduceEqDiff, not_false_eq_true, Classical.not_not, Int.lt_irrefl, false_implies, g0, g2, g4, g7, g8, g35, g36, g37, hs, he]
    refine ⟨fun _ b10 hf10 => ?_, fun h => by omega⟩
    have hAw : Away bc τ := Away.of hD (o := .own (((l.set pt x).map eS).flatten ++ rest)) (look_hd ..)
    have hn1 := beq_false_of_ne (fresh_ne hf10 (k := bc) (o := .own (((l.set pt x).map eS).flatten ++ rest)) (by rw [hAw.look]; exact look_hd ..))
    refine DrawK.text mixed (by kernel_rfl) ?_
    simp only [go_sem, Nat.reduceBEq, Nat.reduceLT, Nat.reduceAdd, Nat.reduceMul, Nat.reduceSub, Nat.reduceLeDiff, decide_true, ne_eq, Nat.reduceEqDiff, not_false_eq_true, Classical.not_not, Int.lt_irrefl, false_implies, g0, g2, g4, g7, g8, g35, g36, g37, hs, he, hn1]
    refine ⟨_, impl_DropEdge s k e he hsok hsl, ?_⟩
    have hwr : splice (((l.set pt x).map eS).flatten ++ rest) (pt * 3) (eS (dropAt s k)) = ((l.set pt (dropAt s k)).map eS).flatten ++ rest := by
      rw [splice_app (by rw [hrl]; simp [eS]; omega), rows_write (sz := 3) (fun _ => rfl) (by simp; omega), List.set_set]
    simp only [eS, edges] at hwr
    simp only [go_sem, Nat.reduceBEq, Nat.reduceLT, Nat.reduceAdd, Nat.reduceMul, Nat.reduceSub, Nat.reduceLeDiff, decide_true, ne_eq, Nat.reduceEqDiff, not_false_eq_true, Classical.not_not, Int.lt_irrefl, false_implies, g0, g2, g4, g7, g8, g35, g36, g37, hs, he, hn1, hAw.look, hAw.set, hwr, List.length_append, hrl]
    have hl2 : (l.set pt (dropAt s k)).length = l.length := by simp
    have hgh : Gh gl [(bc, .own (((l.set pt (dropAt s k)).map eS).flatten ++ rest))] (.msl bc 0 l.length c) [] (systems (l.set pt (dropAt s k))) := by
      have := Gh.rows (gl := gl) (b := bc) (c := c) (rest := rest) (rows_eS (l.set pt (dropAt s k))) (by simpa using hc)
      simpa [systems] using this
    refine ⟨by omega, by omega, ?_⟩
    refine Pure.lendP (τ := [(bc, .own (((l.set pt (dropAt s k)).map eS).flatten ++ rest))]) (σ := (b10, .own (eE e)) :: τ) (impl_PartsKeep hg (l.set pt (dropAt s k)) p (by rw [hl2]; exact hll) (fun t ht => ?_) h1 h2) (Gh.cons hgh (Gh.cons (Gh.of (Sees.refl _)) GhAll.nil)) rfl List.perm_append_comm ?_
    · rcases List.mem_or_eq_of_mem_set ht with ht | rfl
      · exact hl t ht
      · exact Nat.le_trans (dropAt_len s k) hsl
    have hrl2 := repUp_length l p pt s k
    have hstep : repUp l p pt s (k + 1) = repUp l p pt s k ++ if keeps (l.set pt (dropAt s k)) p = true then [e] else [] := by simp only [repUp, he]
    cases hkp : keeps (l.set pt (dropAt s k)) p
    · rw [hkp, if_neg (by simp), List.append_nil] at hstep
      simp only [go_sem, Nat.reduceBEq, Nat.reduceLT, Nat.reduceAdd, Nat.reduceMul, Nat.reduceSub, Nat.reduceLeDiff, decide_true, ne_eq, Nat.reduceEqDiff, not_false_eq_true, Classical.not_not, Int.lt_irrefl, false_implies, g0, g2, g4, g7, g8, g35, g36, g37]
      refine ⟨⟨by omega, by omega⟩, _, Turn.sub (List.sublist_cons_self _ _), _, ?_, k + 1, out, τ, dropAt s k, by rw [hstep]; exact hB, hD, rfl, rfl, rfl, rfl, rfl, rfl, rfl, rfl, by omega, rfl, rfl⟩
      omega
    · rw [hkp, if_pos rfl] at hstep
      simp only [go_sem, Nat.reduceBEq, Nat.reduceLT, Nat.reduceAdd, Nat.reduceMul, Nat.reduceSub, Nat.reduceLeDiff, decide_true, ne_eq, Nat.reduceEqDiff, not_false_eq_true, Classical.not_not, Int.lt_irrefl, false_implies, g0, g2, g4, g7, g8, g35, g36, g37]
      refine hB.pushB (τp := [(b10, .own (eE e))]) (σ := [(bc, .own (((l.set pt (dropAt s k)).map eS).flatten ++ rest))]) (Dj.one (fresh_app_left hf10)) rfl rfl (by decide) rfl ⟨by simp; omega, by decide⟩ fun out' τ' hB' hD' => ?_
      simp only [go_sem, Nat.reduceBEq, Nat.reduceLT, Nat.reduceAdd, Nat.reduceMul, Nat.reduceSub, Nat.reduceLeDiff, decide_true, ne_eq, Nat.reduceEqDiff, not_false_eq_true, Classical.not_not, Int.lt_irrefl, false_implies, g0, g2, g4, g7, g8, g35, g36, g37]
      refine ⟨⟨by omega, by omega⟩, _, Turn.sub (List.Sublist.append (List.Sublist.refl τ') (List.sublist_cons_self _ _)), _, ?_, k + 1, out', τ', dropAt s k, by rw [hstep, List.map_append]; exact hB', fun q hq => (hD' q hq).2, rfl, rfl, rfl, rfl, rfl, rfl, rfl, rfl, by omega, rfl, rfl⟩
      omega
  · have : k = s.ed.length := by omega
    subst this
    simp only [go_sem, Nat.reduceBEq, Nat.reduceLT, Nat.reduceAdd, Nat.reduceMul, Nat.reduceSub, Nat.reduceLeDiff, decide_true, ne_eq, Nat.reduceEqDiff, not_false_eq_true, Classical.not_not, Int.lt_irrefl, false_implies, g0, g2, g4, g7, g8, g35, g36, g37, hs]
    rw [hrep]
    exact ⟨τ, List.sublist_append_left τ _, hB⟩
end Go.Proofs
end
