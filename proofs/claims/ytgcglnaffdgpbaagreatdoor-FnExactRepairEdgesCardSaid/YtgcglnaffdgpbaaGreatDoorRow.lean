/- The law's row and its tied card hold: for every input the call returns true and leaves its arguments alone; the two listed tables read as the program's text lays them. -/
import Derived.Test.YtgcglnaffdgpbaaGreatDoorWalkH
import Derived.Test.YtgcglnaffdgpbaaGreatDoorRuleG
import Derived.Test.YtgcglnaffdgpbaaGreatDoorRows
import Derived.Test.YtgcglnaffdgpbaaGreatDoorCards
import Derived.Test.YtgcglnaffdgpbaaGreatDoorTie
import Derived.ProofKit
import Derived.LaidMore
import Derived.OpenShut
import Derived.WideKeyArgs
import Derived.Stop.Joined
import Derived.Deep.OwnRows
import Derived.Deep.Matrix
section
/- The row of the law, and its card. -/
namespace Go.Proofs
open Go.AX AG
section
variable {H : Type} {enc : TypeId × Value → H} {w : World} {base : Nat} {sp : Nat → Bool} {held : Bool}
theorem cells3 : Tryz.prog.cellsOf 3 = 1 := by kernel_rfl
theorem cells4 : Tryz.prog.cellsOf 4 = 1 := by kernel_rfl
theorem cells43 : Tryz.prog.cellsOf 43 = 1 := by kernel_rfl
theorem cells45 : Tryz.prog.cellsOf 45 = 3 := by kernel_rfl
theorem cells92 : Tryz.prog.cellsOf 92 = 3 := by kernel_rfl
theorem cells69 : Tryz.prog.cellsOf 69 = 1 := by kernel_rfl
theorem cells23 : Tryz.prog.cellsOf 23 = 1 := by kernel_rfl
theorem cells24 : Tryz.prog.cellsOf 24 = 1 := by kernel_rfl
theorem cells26 : Tryz.prog.cellsOf 26 = 3 := by kernel_rfl
theorem rd_edge (n : Nat) (cs : List Value) (x : DataW H × List MemPlace) (h : DataW.trod enc Tryz.prog w base sp held n 92 cs = some x) : ∃ e : Ed, repAll w (full w) (eE e) cs ∧ (∀ v ∈ cs, v.oneCell' = true) ∧ True := by
  obtain ⟨c0, c1, c2, m, x0, x1, x2, rfl, h0, h1, h2⟩ := rd_struct3 Tryz.underlying92 cells92 ⟨rfl, cells3⟩ ⟨rfl, cells3⟩ ⟨rfl, cells3⟩ h
  obtain ⟨a, ha⟩ := rd_int Tryz.underlying3 h0
  obtain ⟨b, hb⟩ := rd_int Tryz.underlying3 h1
  obtain ⟨c, hc⟩ := rd_int Tryz.underlying3 h2
  simp only [List.cons.injEq, and_true] at ha hb hc
  subst ha hb hc
  exact ⟨⟨a, b, c⟩, repAll2 rfl (repAll2 rfl (repAll1 rfl)), by simp [Value.oneCell'], trivial⟩
theorem rd_edges {n : Nat} {cs : List Value} {x : DataW H × List MemPlace} (h : DataW.trod enc Tryz.prog w base sp held n 43 cs = some x) : ∃ (l : List Ed) (v : Value), cs = [v] ∧ v.oneCell' = true ∧ rep w (full w) (edges l) v ∧ l.length ≤ maxLen ∧ ∀ y ∈ l, True :=
  rd_slice Tryz.underlying43 cells92 (by decide) eE (fun _ => True) (fun _ => rfl) rd_edge h
theorem rd_system (n : Nat) (cs : List Value) (x : DataW H × List MemPlace) (h : DataW.trod enc Tryz.prog w base sp held n 45 cs = some x) : ∃ s : Ts, repAll w (full w) (eS s) cs ∧ (∀ v ∈ cs, v.oneCell' = true) ∧ s.ed.length ≤ maxLen := by
  obtain ⟨c0, c1, c2, m, x0, x1, x2, rfl, h0, h1, h2⟩ := rd_struct3 Tryz.underlying45 cells45 ⟨rfl, cells3⟩ ⟨rfl, cells3⟩ ⟨rfl, cells43⟩ h
  obtain ⟨a, ha⟩ := rd_int Tryz.underlying3 h0
  obtain ⟨b, hb⟩ := rd_int Tryz.underlying3 h1
  obtain ⟨l, v, hv, ho, hr, hl, _⟩ := rd_edges h2
  simp only [List.cons.injEq, and_true] at ha hb hv
  subst ha hb hv
  exact ⟨⟨a, b, l⟩, repAll2 rfl (repAll2 rfl (repAll1 hr)), fun v hv => by
    simp only [List.mem_cons, List.not_mem_nil, or_false] at hv
    rcases hv with rfl | rfl | rfl <;> first | rfl | assumption, hl⟩
theorem rd_systems {n : Nat} {cs : List Value} {x : DataW H × List MemPlace} (h : DataW.trod enc Tryz.prog w base sp held n 22 cs = some x) : ∃ (l : List Ts) (v : Value), cs = [v] ∧ v.oneCell' = true ∧ rep w (full w) (systems l) v ∧ l.length ≤ maxLen ∧ ∀ s ∈ l, s.ed.length ≤ maxLen :=
  rd_slice Tryz.underlying22 cells45 (by decide) eS (fun s => s.ed.length ≤ maxLen) (fun _ => rfl) rd_system h
theorem rd_intE (n : Nat) (cs : List Value) (x : DataW H × List MemPlace) (h : DataW.trod enc Tryz.prog w base sp held n 3 cs = some x) : ∃ e : Int, repAll w (full w) (eI e) cs ∧ (∀ v ∈ cs, v.oneCell' = true) ∧ True := by
  obtain ⟨a, rfl⟩ := rd_int Tryz.underlying3 h
  exact ⟨a, repAll1 rfl, by simp [Value.oneCell'], trivial⟩
theorem rd_boolE (n : Nat) (cs : List Value) (x : DataW H × List MemPlace) (h : DataW.trod enc Tryz.prog w base sp held n 4 cs = some x) : ∃ e : Bool, repAll w (full w) (eB e) cs ∧ (∀ v ∈ cs, v.oneCell' = true) ∧ True := by
  obtain ⟨a, rfl⟩ := rd_bool Tryz.underlying4 h
  exact ⟨a, repAll1 rfl, by simp [Value.oneCell'], trivial⟩
theorem rd_row (n : Nat) (cs : List Value) (x : DataW H × List MemPlace) (h : DataW.trod enc Tryz.prog w base sp held n 69 cs = some x) : ∃ l : List Int, repAll w (full w) (eL l) cs ∧ (∀ v ∈ cs, v.oneCell' = true) ∧ l.length ≤ maxLen := by
  obtain ⟨l, v, rfl, ho, hr, hl, _⟩ := rd_slice Tryz.underlying69 cells3 (by decide) eI (fun _ => True) (fun _ => rfl) rd_intE h
  exact ⟨l, repAll1 hr, by simp [ho], hl⟩
theorem rd_automaton {n : Nat} {cs : List Value} {x : DataW H × List MemPlace} (h : DataW.trod enc Tryz.prog w base sp held n 26 cs = some x) : ∃ p : Au, repAll w (full w) (eA p) cs ∧ (∀ v ∈ cs, v.oneCell' = true) ∧ p.nx.length ≤ maxLen ∧ (∀ r ∈ p.nx, r.length ≤ maxLen) ∧ p.ac.length ≤ maxLen := by
  obtain ⟨c0, c1, c2, m, x0, x1, x2, rfl, h0, h1, h2⟩ := rd_struct3 Tryz.underlying26 cells26 ⟨rfl, cells3⟩ ⟨rfl, cells23⟩ ⟨rfl, cells24⟩ h
  obtain ⟨a, ha⟩ := rd_int Tryz.underlying3 h0
  obtain ⟨nx, v, hv, ho, hr, hl, hG⟩ := rd_slice Tryz.underlying23 cells69 (by decide) eL (fun l => l.length ≤ maxLen) (fun _ => rfl) rd_row h1
  obtain ⟨ac, u, hu, ho2, hr2, hl2, _⟩ := rd_slice Tryz.underlying24 cells4 (by decide) eB (fun _ => True) (fun _ => rfl) rd_boolE h2
  simp only [List.cons.injEq, and_true] at ha hv hu
  subst ha hv hu
  exact ⟨⟨a, nx, ac⟩, repAll2 rfl (repAll2 hr (repAll1 hr2)), fun v hv => by
    simp only [List.mem_cons, List.not_mem_nil, or_false] at hv
    rcases hv with rfl | rfl | rfl <;> first | rfl | assumption, hl, hG, hl2⟩
end
def gl0 : Globs := [(1, deBruijn)]
theorem gl0_look : lookG gl0 1 = .cptr deBruijn := rfl
end Go.Proofs
namespace Go.Proofs.YtgcglnaffdgpbaaGreatDoor
open Go.AX AG Go.Proofs
open Go.ChangeShapes Go.WideShapes Go.ChangeAt Go.RowKit
theorem own : ownKnob Tryz.prog.godebug = none := by kernel_rfl
theorem laidOut : laidOutB Tryz.prog = true := by kernel_rfl
theorem g32 : Tryz.prog.globalNamed "math/bits.deBruijn32tab" = some 0 := by kernel_rfl
theorem g64 : Tryz.prog.globalNamed "math/bits.deBruijn64tab" = some 1 := by kernel_rfl
theorem t64 : (Tryz.prog.globals[1]?).map (·.type) = some 143 := by kernel_rfl
theorem c5 : Tryz.prog.cellsOf 5 = 1 := by kernel_rfl
theorem c143 : Tryz.prog.cellsOf 143 = 64 := by kernel_rfl
def laid : List (String × DataW Unit) := [("math/bits.deBruijn32tab", Rows.laid_math_bits_deBruijn32tab), ("math/bits.deBruijn64tab", Rows.laid_math_bits_deBruijn64tab)]
theorem laid64 : (Rows.laid_math_bits_deBruijn64tab : DataW Unit) = .agg (Go.Lib.deBruijn64tab.map fun n : Nat => .lit (.int .u8 n)) := rfl
theorem door_met (os : Os) (args : Array Value) : laidMetH Tryz.prog laid ((World.doorLaid Tryz.prog 400 os).forCall (fun _ _ => 0) ⟨#[], args, []⟩).memory :=
  laidMetH_of_parts3 (fuel := 8) (laidMet_of_run' 8 (by kernel_rfl) (by kernel_rfl)) (by kernel_rfl) (by kernel_rfl)
theorem of_laid {W : World} (h : laidMetH Tryz.prog laid W) : ∀ i (n : Nat), Go.Lib.deBruijn64tab[i]? = some n → W.cell? ⟨1, i, none⟩ = some (.int .u8 n) := by
  rw [MakeChecks.laidMetH_plain _ _ _ (by kernel_rfl)] at h
  obtain ⟨ps, ⟨g0, t0, cs0, f0, p0, q0, hg0, ht0, hv0, hd0, ⟨g1, t1, cs1, f1, p1, q1, hg1, ht1, hv1, hd1, _, _⟩, _⟩, _, _⟩ := h
  obtain rfl := Option.some.inj (g64.symm.trans hg1)
  obtain rfl := Option.some.inj (t64.symm.trans ht1)
  obtain ⟨xs, m1, rfl, hx1, hlen, hn3, hel⟩ := DataW.trod_array Tryz.underlying143 hd1
  rw [c143] at hlen
  rw [laid64] at hx1
  simp only [Prod.mk.injEq, DataW.agg.injEq] at hx1
  intro i n hi
  have hlt : i < 64 := by
    have := (List.getElem?_eq_some_iff.1 hi).1
    exact Nat.lt_of_lt_of_eq this (by decide)
  have h1 := hel i hlt
  rw [c5, Nat.mul_one, List.drop_eq_getElem_cons (by omega), List.take_succ_cons, List.take_zero] at h1
  have hxi : i < xs.length := by omega
  rw [List.getElem?_eq_getElem hxi] at h1
  obtain ⟨k, e1, e2, _⟩ := DataW.trod_int Tryz.underlying5 h1
  have e3 : (xs.map (·.1))[i]? = some (.lit (.int .u8 k)) := by rw [List.getElem?_map, List.getElem?_eq_getElem hxi, e2]; rfl
  rw [← hx1.1, List.getElem?_map, hi] at e3
  simp only [Option.map_some, Option.some.injEq, DataW.lit.injEq, Lit.int.injEq, true_and] at e3
  have hc := World.var?_cell hg1 hv1 i
  rw [hc, ← Array.getElem?_toList, List.getElem?_eq_getElem (by omega)]
  simp only [List.cons.injEq, and_true] at e1
  rw [e1, e3]
theorem glob_ok {W : World} (h : laidMetH Tryz.prog laid W) : ∀ p ∈ gl0, repCells W (full W) p.1 0 p.2 := by
  intro p hp
  simp only [gl0, List.mem_singleton] at hp
  subst hp
  refine repCells_of (cs := Go.Lib.deBruijn64tab.map fun n : Nat => .int .u8 n) (fun i hi => ?_) ?_ ?_
  · rw [List.length_map] at hi
    rw [Nat.zero_add, List.getElem?_map, List.getElem?_eq_getElem hi]
    exact of_laid h i _ (List.getElem?_eq_getElem hi)
  · have key : ∀ l : List Nat, repAll W (full W) (l.map fun n : Nat => AV.byte n) (l.map fun n : Nat => Value.int .u8 n) := fun l => by
      induction l with
      | nil => simp only [repAll, List.map_nil]
      | cons a l ih => exact repAll2 rfl ih
    exact key _
  · intro v hv
    obtain ⟨n, _, rfl⟩ := List.mem_map.1 hv
    rfl
set_option maxRecDepth 100000 in
theorem lifted (os : Os) (started : os.Started) (H : Type) (enc : TypeId × Value → H) :
    ReturnsInHanded {} Tryz.checked os 3 .any (fun w args => (Rows.fnExactRepairEdgesSpec.pre enc Tryz.prog Tryz.f3 [] false w args ∧ laidMetH Tryz.prog laid w) ∧ sizedMet enc Tryz.prog Tryz.f3 (OpenSpec.ofChange Rows.fnExactRepairEdgesSpec) false w args)
      (Rows.fnExactRepairEdgesSpec.post enc Tryz.prog Tryz.f3 false true false false) := by
  refine returnsInHanded_of_change_and (C := Tryz.checked) (X := fun w _ => laidMetH Tryz.prog laid w) (fun _ _ _ hh h => h.of_heap hh) own started (by kernel_rfl) Tryz.func3
    (ChangeSpec.witness_shaped (enc := enc) (C := Tryz.checked) (os := os) (X := fun w _ => laidMetH Tryz.prog laid w) false (World.doorLaid Tryz.prog 400 os) #[.slice none 0 0, .agg #[.int .i64 0, .slice none 0 0, .slice none 0 0], .int .i64 0] 8 rfl (World.shaped_of_RefB (by kernel_rfl) (by kernel_rfl)) (by kernel_rfl) (by kernel_rfl) (by kernel_rfl) (door_met os _)) ?_
  intro W base args ds gs before hval0 hW _ _ hL _
  have hval : ∀ (j : Nat) t v, Tryz.f3.params[j]? = some t → args[j]? = some v → Value.okWide Tryz.prog W .any base t v := hval0
  have hW' := hW
  obtain ⟨p, q, hA0, hV, rfl, hfz, hnd⟩ := hW
  have hA : DataW.TrodAll enc Tryz.prog W 0 (fun _ => true) true Tryz.f3.params.toList args.toList ds p := hA0
  rw [Tryz.params3] at hA hval
  obtain ⟨v0, v1, v2, d0, d1, d2, p0, p1, p2, rfl, rfl, rfl, h0, h1, h2⟩ := trodAll_three hA
  obtain ⟨rfl, rfl⟩ := trodVars_none hV
  obtain ⟨a0, ln, cp, rfl⟩ := okWide_slice Tryz.underlying22 (hval 0 22 v0 rfl rfl)
  obtain ⟨cells, rfl⟩ : ∃ cs : Array Value, v1 = .agg cs := by
    have := hval 1 26 v1 rfl rfl
    simp only [Value.okWide, Tryz.underlying26] at this
    obtain ⟨cs, h, _⟩ := this
    exact ⟨cs, h⟩
  obtain ⟨part, rfl, rfl, rfl, wp⟩ := open_int Tryz.underlying3 (hval 2 3 v2 rfl rfl) h2
  have h0k := h0
  have h1k := h1
  obtain ⟨n0, e0⟩ := h0
  obtain ⟨n1, e1⟩ := h1
  obtain ⟨l, v, hv, _, hr, b1, b2⟩ := rd_systems e0
  obtain ⟨au, hra, ho, b3, b4, b5⟩ := rd_automaton e1
  have hv' : (Value.slice a0 ln cp) = v := by simpa [Value.cells] using hv
  subst hv'
  have hra' : repAll W (full W) (eA au) cells.toList := hra
  have ho' : ∀ v ∈ cells.toList, v.oneCell' = true := ho
  clear hv hra ho e0 e1
  have hrep : repAll W (full W) [systems l, .agg (eA au), .int part] [.slice a0 ln cp, .agg cells, .int .i64 part] := by
    refine repAll2 hr (repAll2 ?_ (repAll1 rfl))
    simp only [rep]
    exact ⟨cells.toList, by simp, hra', ho'⟩
  have hInv : Inv gl0 W (full W) [] := ⟨by simp, by simp [AX.keys], full_wf W, glob_ok hL⟩
  have hml : maxLen = 9223372036854775807 := rfl
  rw [hml] at b1 b2 b3 b4 b5
  have hlt : ∀ x ∈ p0 ++ p1, x.block < W.heap.size := fun x hx => hW'.lt x (by simpa using hx)
  have walk := (law_main (gl := gl0) gl0_look l au part b1 b2 b3 b4 b5).2 W (full W) _ hInv hrep
  refine walk.mono fun e W' ⟨v, M', r, σ', he, hr', hs, hv'⟩ => ?_
  subst he hr'
  have hvb : v = .bool true := by simpa only [rep] using hv'
  subst hvb
  have hsin : W.Since W.heap.size W' := ⟨hs.ext.os, hs.ext.tape, hs.ext.output, hs.ext.size, fun k hk => (hs.ext.frame k hk (by simp [AX.keys])).1⟩
  refine ⟨_, rfl, _, _, _, [], p0 ++ (p1 ++ []), [], hW', ?_, ?_, ?_, hsin.frame _, fun h => by cases h⟩
  · exact trodAll_mk1 (shut_bool Tryz.underlying4 true)
  · exact trodAll_mk3 (WideElems.Trod_stays (sp' := fun b => decide (b < W.heap.size)) laidOut (by kernel_rfl) (of_decide_eq_true (by kernel_rfl)) h0k (fun x hx => hsin.sameAt (hlt x (by simp [hx]))) (fun x hx => by simpa using hlt x (by simp [hx])))
      (WideElems.Trod_stays (sp' := fun b => decide (b < W.heap.size)) laidOut (by kernel_rfl) (of_decide_eq_true (by kernel_rfl)) h1k (fun x hx => hsin.sameAt (hlt x (by simp [hx]))) (fun x hx => by simpa using hlt x (by simp [hx])))
      (shut_int Tryz.underlying3 wp)
  · rfl
theorem fnExactRepairEdges_holds : Rows.FnExactRepairEdgesSaid :=
  OpenClaim.holds_of_wide 3 Tryz.f3 rfl rfl rfl rfl rfl rfl rfl ⟨rfl, rfl, rfl, rfl, rfl⟩ rfl rfl rfl rfl rfl (by kernel_rfl) Tryz.func3 (by kernel_rfl)
    (of_decide_eq_true (by kernel_rfl)) (by unfold Func.isWrapper; first | (rw [if_pos (by decide +kernel)]; kernel_rfl) | (rw [if_neg (by decide +kernel)]; exact ⟨rfl, rfl⟩))
    (fun os started H enc _ => lifted os started H enc)
theorem fnExactRepairEdges_card_holds : Rows.FnExactRepairEdgesCardSaid :=
  Claim7.holds_tied_plain_at .later [] [.data, .data] true (true, "3bbb9904d4c5f92da5e933d83c101a62e7a691bd794679d00176511427d3c341") false
    fnExactRepairEdges_holds (fun _ h => by cases h) (by kernel_rfl) (fun _ h => by cases h) fnExactRepairEdges_row_tie rfl ⟨rfl, rfl⟩ (by kernel_rfl) rfl
    (fun f fn hf hfn => by
      obtain rfl : f = 3 := Option.some.inj ((show Tryz.prog.funcNamed "loop.example/assumeguarantee/laws.FnExactRepairEdges" = some 3 by kernel_rfl).symm.trans hf) |>.symm
      obtain rfl : fn = Tryz.f3 := (Option.some.inj (Tryz.func3.symm.trans hfn)).symm
      exact ⟨by kernel_rfl, fun j t ht => by
        rw [Tryz.params3] at ht
        have h3 : t = 22 ∨ t = 26 ∨ t = 3 := by
          rcases j with _ | _ | _ | j
          · left; simpa using ht.symm
          · right; left; simpa using ht.symm
          · right; right; simpa using ht.symm
          · simp at ht
        rcases h3 with rfl | rfl | rfl
        · exact (show Tryz.prog.wantsStandIn 22 = false by kernel_rfl)
        · exact (show Tryz.prog.wantsStandIn 26 = false by kernel_rfl)
        · exact (show Tryz.prog.wantsStandIn 3 = false by kernel_rfl)⟩)
    (by kernel_rfl)
#print axioms fnExactRepairEdges_card_holds
end Go.Proofs.YtgcglnaffdgpbaaGreatDoor
end
