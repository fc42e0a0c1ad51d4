/- Rules of proof over abstract values, for any program. -/
import Derived.Test.YtgcglnaffdgpbaaGreatDoorRuleA
import Derived.Laws.Sem
import Derived.Laws.Cells
import Derived.Laws.Append
import Derived.Laws.AppendOwn
import Derived.Laws.MakeOwn
import Derived.Laws.IdiomCopy
import Derived.IntWalk
import Derived.Laws.CopyRow
section
/- Soundness of the operations: what opWp asks is enough for the model's own step. -/
namespace Go.AX
open Go

section
variable {P : Program} {gl : Globs} {w : World} {M : Marks}

theorem TI_inv {t : TypeId} {ti : TyI} (h : TI P t = some ti) : ∃ i d z, P.info? t = some i ∧ P.underlying t = some d ∧ i.zero = some z ∧ ti = ⟨.of d, i.size, i.bytes, z.cells.toList⟩ ∧
    z.cells.toList.length = i.size ∧ ∀ v ∈ z.cells.toList, v.oneCell' = true := by
  unfold TI at h
  split at h
  · rename_i i d hi hd
    split at h
    · rename_i z hz
      by_cases hc : (z.cells.size == i.size && z.cells.all (·.oneCell')) = true
      · rw [hc] at h
        simp only [cond_true, Option.some.injEq] at h
        simp only [Bool.and_eq_true, beq_iff_eq, Array.all_eq_true'] at hc
        exact ⟨i, d, z, hi, hd, hz, h.symm, by simpa using hc.1, fun v hv => hc.2 v (by simpa using hv)⟩
      · simp only [Bool.not_eq_true] at hc
        rw [hc] at h
        simp at h
    · cases h
  · cases h
theorem run_und {t : TypeId} {d : TypeDesc} (h : P.underlying t = some d) (w : World) : (underlying t).run P w = .ok d w := by simp [underlying, h]
theorem run_info {t : TypeId} {i : TypeInfo} (h : P.info? t = some i) (w : World) : (typeInfo t).run P w = .ok i w := by simp [typeInfo, h]
theorem run_size {t : TypeId} {i : TypeInfo} (h : P.info? t = some i) (w : World) : (sizeOf t).run P w = .ok i.size w := by simp [sizeOf, run_info h]
theorem run_isAgg {t : TypeId} {d : TypeDesc} (h : P.underlying t = some d) (w : World) : (isAgg t).run P w = .ok (Ty.of d).agg w := by
  simp only [isAgg, Sem.run_bind, run_und h, Result.andThen_ok]
  cases d <;> rfl

theorem ofCell_rep (v : Value) : rep w M (ofCell v) v := by
  cases v <;> simp [ofCell, rep]
theorem ofVal_rep (v : Value) : rep w M (ofVal v) v := by
  cases v <;> simp only [ofVal, rep]
  case agg cs =>
    by_cases h : cs.toList.all (·.oneCell') = true
    · rw [h]
      simp only [cond_true, rep]
      refine ⟨cs.toList, by simp, repAll_of_get (by simp) ?_, fun v hv => by simpa using List.all_eq_true.1 h v hv⟩
      intro i a v ha hv
      simp only [List.getElem?_map, hv, Option.map_some, Option.some.injEq] at ha
      subst ha
      exact ofCell_rep v
    · simp only [Bool.not_eq_true] at h
      rw [h]
      simp [rep]
theorem zero_rep {l : List Value} : repAll w M (l.map ofCell) l := repAll_of_get (by simp) fun i a v ha hv => by
  simp only [List.getElem?_map, hv, Option.map_some, Option.some.injEq] at ha
  subst ha
  exact ofCell_rep v

theorem lookG_rep {σ : Store} (h : Inv gl w M σ) (g : Nat) : rep w M (lookG gl g) (.pointer (some ⟨g, 0, none⟩)) := by
  have : ∀ l : Globs, (∀ p ∈ l, repCells w M p.1 0 p.2) → rep w M (lookG l g) (.pointer (some ⟨g, 0, none⟩)) := by
    intro l
    induction l with
    | nil => intro _; simp [lookG, rep]
    | cons p r ih =>
      obtain ⟨k, cs⟩ := p
      intro hl
      simp only [lookG]
      by_cases hg : g = k
      · subst hg
        simp only [BEq.rfl, cond_true, rep]
        exact ⟨g, 0, rfl, hl (g, cs) (by simp)⟩
      · have : (g == k) = false := by simpa using hg
        simp only [this, cond_false]
        exact ih fun p hp => hl p (List.mem_cons_of_mem _ hp)
  exact this gl h.glob
theorem ev_rep {σ : Store} (hI : Inv gl w M σ) {cf : Cfg} {ρ : Env} {a : Act} (hF : Fits cf w M ρ a) (x : Operand) : rep w M (ev gl ρ x) (a.eval x) := by
  cases x with
  | tmp t => exact hF.1 t
  | const v => exact ofVal_rep v
  | global g => exact lookG_rep hI g
  | func f => simp only [ev, Act.eval, rep]; exact ⟨[], [], rfl, by simp [repAll], by simp [repAll]⟩

theorem cellsOf_rep {x : AV} {c : List AV} {v : Value} (h : cellsOf x = some c) (hr : rep w M x v) : repAll w M c v.cells.toList ∧ ∀ u ∈ v.cells.toList, u.oneCell' = true := by
  cases x with
  | raw u =>
    simp only [cellsOf] at h
    cases hu : u.oneCell' with
    | false => simp [hu] at h
    | true =>
      simp only [hu, cond_true, Option.some.injEq] at h
      subst h
      simp only [rep] at hr
      subst hr
      have : v.cells.toList = [v] := by cases v <;> first | rfl | (simp [Value.oneCell'] at hu)
      rw [this]
      exact ⟨by simp [repAll, rep], by simpa using hu⟩
  | agg cs =>
    simp only [cellsOf, Option.some.injEq] at h
    subst h
    simp only [rep] at hr
    obtain ⟨vs, rfl, h1, h2⟩ := hr
    exact ⟨by simpa [Value.cells] using h1, by simpa [Value.cells] using h2⟩
  | top => simp [cellsOf] at h
  | tup vs => simp [cellsOf] at h
  | str l =>
    simp only [cellsOf, Option.some.injEq] at h; subst h
    simp only [rep] at hr; subst hr
    exact ⟨by simp [Value.cells, repAll, rep], by simp [Value.cells, Value.oneCell']⟩
  | list sz xs =>
    simp only [cellsOf, Option.some.injEq] at h; subst h
    have hr' := hr
    simp only [rep] at hr'
    obtain ⟨A, cap, rfl, _⟩ := hr'
    exact ⟨by simp only [Value.cells, repAll]; exact ⟨_, [], rfl, hr, rfl⟩, by simp [Value.cells, Value.oneCell']⟩
  | vec b sz xs =>
    simp only [cellsOf, Option.some.injEq] at h; subst h
    have hr' := hr
    simp only [rep] at hr'
    obtain ⟨cap, e, n, rfl, _⟩ := hr'
    exact ⟨by simp only [Value.cells, repAll]; exact ⟨_, [], rfl, hr, rfl⟩, by simp [Value.cells, Value.oneCell']⟩
  | cptr cs =>
    simp only [cellsOf, Option.some.injEq] at h; subst h
    have hr' := hr
    simp only [rep] at hr'
    obtain ⟨b, o, rfl, _⟩ := hr'
    exact ⟨by simp only [Value.cells, repAll]; exact ⟨_, [], rfl, hr, rfl⟩, by simp [Value.cells, Value.oneCell']⟩
  | mt =>
    simp only [cellsOf, Option.some.injEq] at h; subst h
    have hr' := hr
    simp only [rep] at hr'
    obtain ⟨A, rfl⟩ := hr'
    exact ⟨by simp only [Value.cells, repAll]; exact ⟨_, [], rfl, hr, rfl⟩, by simp [Value.cells, Value.oneCell']⟩
  | clos fn fs cs =>
    simp only [cellsOf, Option.some.injEq] at h; subst h
    have hr' := hr
    simp only [rep] at hr'
    obtain ⟨us, vs, rfl, _⟩ := hr'
    exact ⟨by simp only [Value.cells, repAll]; exact ⟨_, [], rfl, hr, rfl⟩, by simp [Value.cells, Value.oneCell']⟩

/-! ### Loads -/
theorem addr_add (b o n : Nat) : (⟨b, o, none⟩ : Addr).add n = ⟨b, o + n, none⟩ := by unfold Addr.add; split <;> simp_all
/-- Cells that read as cs are loaded as a value that reads as mkV .. -/
theorem loadVar_cells {t : TypeId} {ti : TyI} (ht : TI P t = some ti) {b o : Nat} {cs : List AV} (h0 : 0 < ti.sz) (hn : ti.sz ≤ cs.length)
    (hc : ∀ i a, cs[i]? = some a → ∃ v, w.cell? ⟨b, o + i, none⟩ = some v ∧ v.oneCell' = true ∧ rep w M a v) :
    ∃ v, (loadVar t ⟨b, o, none⟩).run P w = .ok v w ∧ rep w M (mkV ti.ty.agg (cs.take ti.sz)) v := by
  obtain ⟨i, d, z, hi, hd, hz, rfl, _, _⟩ := TI_inv ht
  simp only at h0 hn
  simp only [loadVar, Sem.run_bind, run_isAgg hd, Result.andThen_ok]
  cases hagg : (Ty.of d).agg with
  | true =>
    simp only [if_true, Sem.run_bind, run_size hi, Result.andThen_ok, mkV, cond_true]
    have hex : ∃ vs : List Value, vs.length = i.size ∧ ∀ (j : Nat) a, (cs.take i.size)[j]? = some a → ∃ v, vs[j]? = some v ∧ w.cell? ⟨b, o + j, none⟩ = some v ∧ v.oneCell' = true ∧ rep w M a v := by
      have : ∀ n, n ≤ cs.length → ∃ vs : List Value, vs.length = n ∧ ∀ (j : Nat) a, (cs.take n)[j]? = some a → ∃ v, vs[j]? = some v ∧ w.cell? ⟨b, o + j, none⟩ = some v ∧ v.oneCell' = true ∧ rep w M a v := by
        intro n
        induction n with
        | zero => intro _; exact ⟨[], rfl, by simp⟩
        | succ n ih =>
          intro hle
          obtain ⟨vs, hl, hv⟩ := ih (by omega)
          obtain ⟨v, h1, h2, h3⟩ := hc n (cs[n]'(by omega)) (by simp)
          refine ⟨vs ++ [v], by simp [hl], fun j a ha => ?_⟩
          rw [List.getElem?_take] at ha
          split at ha
          · rename_i hj
            by_cases hjn : j < n
            · obtain ⟨u, hu, hu'⟩ := hv j a (by rw [List.getElem?_take, if_pos hjn]; exact ha)
              exact ⟨u, by rw [List.getElem?_append_left (by omega)]; exact hu, hu'⟩
            · have : j = n := by omega
              subst this
              rw [List.getElem?_eq_getElem (by omega)] at ha
              simp only [Option.some.injEq] at ha
              subst ha
              exact ⟨v, by rw [List.getElem?_append_right (by omega)]; simp [hl], h1, h2, h3⟩
          · cases ha
      exact this i.size hn
    obtain ⟨vs, hl, hv⟩ := hex
    have hcells : ∀ j u, vs[j]? = some u → w.cell? ((⟨b, o, none⟩ : Addr).add j) = some u := fun j u hu => by
      have hj : j < i.size := by rw [← hl]; exact (List.getElem?_eq_some_iff.1 hu).1
      obtain ⟨v, h1, h2, _⟩ := hv j (cs[j]'(by omega)) (by rw [List.getElem?_take, if_pos hj]; simp)
      rw [addr_add, h2, ← h1, hu]
    have := run_loadCells_list (P := P) w ⟨b, o, none⟩ vs hcells
    rw [hl] at this
    refine ⟨.agg vs.toArray, by simp [this], ?_⟩
    simp only [rep]
    refine ⟨vs, rfl, repAll_of_get (by simp [hl]; omega) fun j a v ha hv' => ?_, fun v hv' => ?_⟩
    · obtain ⟨u, h1, _, _, h4⟩ := hv j a ha
      rw [h1] at hv'; cases hv'; exact h4
    · obtain ⟨j, hj⟩ := List.getElem?_of_mem hv'
      have hj' : j < i.size := by rw [← hl]; exact (List.getElem?_eq_some_iff.1 hj).1
      obtain ⟨u, h1, _, h3, _⟩ := hv j (cs[j]'(by omega)) (by rw [List.getElem?_take, if_pos hj']; simp)
      rw [h1] at hj; cases hj; exact h3
  | false =>
    obtain ⟨a, r, rfl⟩ : ∃ a r, cs = a :: r := by cases cs with | nil => simp at hn; omega | cons a r => exact ⟨a, r, rfl⟩
    obtain ⟨v, h1, h2, h3⟩ := hc 0 a rfl
    refine ⟨v, by simpa using by simp at h1; simp [h1], ?_⟩
    have : i.size = (i.size - 1) + 1 := by omega
    simp only [mkV, cond_false]
    rw [this, List.take_succ_cons]
    exact h3
end
end Go.AX
end
section
/- Soundness of the operations, continued: stores, new blocks, composites, append. -/
namespace Go.AX
open Go

section
variable {P : Program} {gl : Globs} {w : World} {M : Marks} {σ : Store}

theorem setRow_eq {b : Nat} {cur c' : Array Value} {e : TypeId} (h : w.heap[b]? = some (.cells cur e)) : w.setRow b c' = setBlk w b (.cells c' e) := by
  have hlt := (Array.getElem?_eq_some_iff.1 h).1
  have hx : w.setRow b c' = { w with heap := (w.setRow b c').heap } := rfl
  rw [hx]
  unfold setBlk
  congr 1
  apply Array.ext'
  apply List.ext_getElem?
  intro j
  by_cases hj : j = b
  · subst hj
    have hv : w.heap[j] = .cells cur e := (Array.getElem?_eq_some_iff.1 h).2
    simp [World.setRow, hlt, hv]
  · have : b ≠ j := fun h => hj h.symm
    simp [World.setRow, this]

theorem store_cells {b off : Nat} {vs : List Value} {cur : Array Value} {e : TypeId} (h : w.heap[b]? = some (.cells cur e)) (hl : off + vs.length ≤ cur.size) (h1 : ∀ v ∈ vs, v.oneCell' = true) :
    (storeCells ⟨b, off, none⟩ vs).run P w = .ok () (setBlk w b (.cells (cur.toList.take off ++ vs ++ cur.toList.drop (off + vs.length)).toArray e)) := by
  rw [← setRow_eq h]
  have := run_storeCells_at P b off e vs 0 cur w h (by simpa using hl) h1
  simpa using this

theorem repAll_splice {cs c : List AV} {us vs : List Value} {o : Nat} (h : repAll w M cs us) (k : repAll w M c vs) :
    repAll w M (splice cs o c) (us.take o ++ vs ++ us.drop (o + vs.length)) := by
  have hl1 := repAll_length h
  have hl2 := repAll_length k
  have htake : repAll w M (cs.take o) (us.take o) := repAll_of_get (by simp [hl1]) fun i a v ha hv => by
    rw [List.getElem?_take] at ha hv
    split at ha
    · rename_i hi
      rw [if_pos hi] at hv
      obtain ⟨u, hu, hr⟩ := repAll_get h i a ha
      rw [hu] at hv; cases hv; exact hr
    · cases ha
  have hdrop : repAll w M (cs.drop (o + c.length)) (us.drop (o + vs.length)) := repAll_of_get (by simp [hl1, hl2]) fun i a v ha hv => by
    rw [List.getElem?_drop] at ha hv
    obtain ⟨u, hu, hr⟩ := repAll_get h _ a ha
    rw [hl2] at hu
    rw [hu] at hv; cases hv; exact hr
  exact repAll_append (repAll_append htake k) hdrop

theorem storeWp_sound {t : TypeId} {ti : TyI} (ht : TI P t = some ti) (hI : Inv gl w M σ) {a x : AV} {u v : Value} {K : AV → Store → Prop} (ha : rep w M a u) (hx : rep w M x v) (h : storeWp ti σ a x K) :
    ∃ w' σ', (Instr.storeAt t u v).run P w = .ok () w' ∧ K .top σ' ∧ Stp gl w M σ w' M σ' := by
  unfold storeWp at h
  split at h
  · rename_i b o c hc
    split at h
    · rename_i cs hl
      obtain ⟨⟨h1, h2⟩, h3⟩ := h
      simp only [rep] at ha
      subst ha
      obtain ⟨i, d, z, hi, hd, hz, rfl, _, _⟩ := TI_inv ht
      simp only at h1 h2
      obtain ⟨cur, e, hb, hM, hr, hone⟩ := hI.objs _ (look_mem hl)
      simp only at hb hM
      obtain ⟨hv1, hv2⟩ := cellsOf_rep hc hx
      have hlen : v.cells.toList.length = c.length := (repAll_length hv1).symm
      have hsz : v.cells.size = i.size := by rw [← h1, ← hlen]; simp
      have hcur : cur.size = cs.length := by rw [repAll_length hr]; simp
      have hst := store_cells (P := P) (vs := v.cells.toList) (off := o) hb (by rw [hlen, h1, hcur]; exact h2) hv2
      refine ⟨setBlk w b (.cells (cur.toList.take o ++ v.cells.toList ++ cur.toList.drop (o + v.cells.toList.length)).toArray e), setAt σ b (.own (splice cs o c)), ?_, h3, Stp.set hI hl hb ?_ ?_ ?_⟩
      · simp only [Instr.storeAt, Instr.sureAddr, storeVar, Sem.run_bind, Sem.run_pure, Result.andThen_ok, run_size hi]
        simp only [ne_eq, hsz, not_true_eq_false, if_false]
        exact hst
      · simp only [List.size_toArray, List.length_append, List.length_take, List.length_drop, hlen, Array.length_toList]
        omega
      · simpa using repAll_splice hr hv1
      · intro y hy
        simp only [List.mem_append] at hy
        rcases hy with (hy | hy) | hy
        · exact hone y (List.mem_of_mem_take hy)
        · exact hv2 y hy
        · exact hone y (List.mem_of_mem_drop hy)
    · cases h
  · cases h

theorem loadWp_sound {t : TypeId} {ti : TyI} (ht : TI P t = some ti) (hI : Inv gl w M σ) {a : AV} {u : Value} {K : AV → Store → Prop} (ha : rep w M a u) (h : loadWp ti σ a K) :
    ∃ v r, (Instr.loadAt t u).run P w = .ok v w ∧ K r σ ∧ rep w M r v := by
  unfold loadWp at h
  split at h
  · rename_i cs
    simp only [rep] at ha
    obtain ⟨b, o, rfl, hc⟩ := ha
    obtain ⟨⟨h0, h1⟩, h2⟩ := h
    obtain ⟨v, hv, hr⟩ := loadVar_cells (w := w) (M := M) ht h0 h1 (b := b) (o := o) (fun i a hi => (repCells_get hc i a hi).2)
    exact ⟨v, _, by simpa [Instr.loadAt, Instr.sureAddr] using hv, h2, hr⟩
  · rename_i b o
    simp only [rep] at ha
    subst ha
    split at h
    · rename_i cs hl
      obtain ⟨⟨h0, h1⟩, h2⟩ := h
      obtain ⟨cur, e, hb, hM, hr, hone⟩ := hI.objs _ (look_mem hl)
      simp only at hb
      obtain ⟨v, hv, hr'⟩ := loadVar_cells (w := w) (M := M) (b := b) (o := o) (cs := cs.drop o) ht h0 (by simp; omega) (fun i a hi => by
        rw [List.getElem?_drop] at hi
        obtain ⟨v, hv, hr'⟩ := repAll_get hr _ a hi
        refine ⟨v, ?_, hone v (List.mem_of_getElem? hv), hr'⟩
        simp only [World.cell?, hb]
        simpa using hv)
      exact ⟨v, _, by simpa [Instr.loadAt, Instr.sureAddr] using hv, h2, hr'⟩
    · rename_i cs hl
      obtain ⟨⟨h0, h1⟩, h2⟩ := h
      have hr := (hI.objs _ (look_mem hl)).1
      obtain ⟨v, hv, hr'⟩ := loadVar_cells (w := w) (M := M) (b := b) (o := o) (cs := cs.drop o) ht h0 (by simp; omega) (fun i a hi => by
        rw [List.getElem?_drop] at hi
        simpa using (repCells_get hr _ a hi).2)
      exact ⟨v, _, by simpa [Instr.loadAt, Instr.sureAddr] using hv, h2, hr'⟩
    · cases h
  · cases h

/-- A new block that nobody writes. -/
theorem new_cells {c : Array Value} {cs : List AV} {e : TypeId} (hI : Inv gl w M σ) (hr : repAll w M cs c.toList) (h1 : ∀ v ∈ c.toList, v.oneCell' = true) :
    Stp gl w M σ (w.alloc (.cells c e)) (updM M w.heap.size c.size) σ ∧ repCells (w.alloc (.cells c e)) (updM M w.heap.size c.size) w.heap.size 0 cs := by
  have hs := Stp.new hI c e c.size (Nat.le_refl _)
  refine ⟨hs, repCells_of_get fun i a hi => ?_⟩
  obtain ⟨v, hv, hr'⟩ := repAll_get hr i a hi
  have hv2 : c[i]? = some v := by simpa using hv
  have hic : i < c.size := (Array.getElem?_eq_some_iff.1 hv2).1
  refine ⟨by simp [updM]; omega, v, ?_, h1 v (List.mem_of_getElem? hv), rep.keep hs.ext.keeps _ _ hr'⟩
  simp only [World.cell?, heap_alloc_new]
  simpa using hv2
/-- A new block of the call's own. -/
theorem new_own {c : Array Value} {cs : List AV} {e : TypeId} (hI : Inv gl w M σ) (hr : repAll w M cs c.toList) (h1 : ∀ v ∈ c.toList, v.oneCell' = true) :
    Stp gl w M σ (w.alloc (.cells c e)) (updM M w.heap.size 0) ((w.heap.size, .own cs) :: σ) := by
  have hs := Stp.new hI c e 0 (Nat.zero_le _)
  exact hs.cons ⟨c, e, heap_alloc_new w _, by simp [updM], repAll.keep hs.ext.keeps _ _ hr, h1⟩ (hI.fresh (Nat.le_refl _)) (Nat.le_refl _)
theorem fresh_of {b : Nat} : ∀ {σ : Store}, b ∉ keys σ → fresh b σ
  | [], _ => trivial
  | (c, _) :: r, h => by
    simp only [keys, List.map_cons, List.mem_cons, not_or] at h
    exact ⟨⟨h.1, fun e => h.1 e.symm⟩, fresh_of h.2⟩

theorem rows_of_cells {b : Nat} {e : TypeId} {c : Array Value} (sz : Nat) : ∀ (n o : Nat) (cs : List AV), n * sz ≤ cs.length → repCells w M b o cs → repRows w M b o sz (rowsOf n sz cs)
  | 0, _, _, _, _ => by simp [rowsOf, repRows]
  | n + 1, o, cs, hn, h => by
    simp only [rowsOf, repRows]
    rw [Nat.add_mul] at hn
    exact ⟨⟨by simp; omega, repCells_take h sz⟩, rows_of_cells (e := e) (c := c) sz n (o + sz) (cs.drop sz) (by simp; omega) (repCells_drop h sz)⟩
theorem rowsOf_length (sz : Nat) : ∀ (n : Nat) (cs : List AV), (rowsOf n sz cs).length = n
  | 0, _ => rfl
  | n + 1, cs => by simp [rowsOf, rowsOf_length sz n]
theorem reps_length {α : Type} (l : List α) : ∀ n, (reps n l).length = n * l.length
  | 0 => by simp [reps]
  | n + 1 => by simp [reps, reps_length l n, Nat.add_mul]; omega
theorem repAll_reps {as : List AV} {vs : List Value} (h : repAll w M as vs) : ∀ n, repAll w M (reps n as) (reps n vs)
  | 0 => by simp [reps, repAll]
  | n + 1 => repAll_append h (repAll_reps h n)
theorem mem_reps {α : Type} {l : List α} {x : α} : ∀ {n}, x ∈ reps n l → x ∈ l
  | 0, h => by simp [reps] at h
  | n + 1, h => by
    simp only [reps, List.mem_append] at h
    exact h.elim id mem_reps
theorem reps_get {α : Type} {l : List α} : ∀ (n i : Nat), i < n * l.length → (reps n l)[i]? = l[i % l.length]?
  | 0, i, h => by simp at h
  | n + 1, i, h => by
    simp only [reps]
    by_cases hi : i < l.length
    · rw [List.getElem?_append_left hi, Nat.mod_eq_of_lt hi]
    · have h' : i - l.length < n * l.length := by rw [Nat.add_mul] at h; omega
      rw [List.getElem?_append_right (by omega), reps_get n (i - l.length) h', Nat.mod_eq_sub_mod (a := i) (by omega)]

/-- The model's own filling of a composite. -/
theorem layA_sound {place : Nat → Option (Nat × Nat)} : ∀ (parts : List (Nat × AV)) (vals : List (Nat × Value)) (cs cs' : List AV) (c : Array Value), layA place parts cs = some cs' →
    parts.length = vals.length → (∀ (i : Nat) (p : Nat × AV) (v : Nat × Value), parts[i]? = some p → vals[i]? = some v → p.1 = v.1 ∧ rep w M p.2 v.2) → repAll w M cs c.toList → (∀ v ∈ c.toList, v.oneCell' = true) →
    ∃ c', Instr.fill place c vals = some c' ∧ c'.size = c.size ∧ repAll w M cs' c'.toList ∧ ∀ v ∈ c'.toList, v.oneCell' = true
  | [], vals, cs, cs', c, h, hl, _, hr, h1 => by
    have : vals = [] := List.eq_nil_of_length_eq_zero hl.symm
    subst this
    simp only [layA, Option.some.injEq] at h
    subst h
    exact ⟨c, rfl, rfl, hr, h1⟩
  | (i, x) :: r, [], _, _, _, _, hl, _, _, _ => by simp at hl
  | (i, x) :: r, (j, v) :: vals, cs, cs', c, h, hl, hv, hr, h1 => by
    obtain ⟨hij, hxv⟩ := hv 0 (i, x) (j, v) rfl rfl
    simp only at hij hxv
    subst hij
    simp only [layA] at h
    split at h
    · rename_i o n c0 hp hc0
      by_cases hb : (c0.length == n && decide (o + n ≤ cs.length)) = true
      · rw [hb] at h
        simp only [cond_true] at h
        simp only [Bool.and_eq_true, beq_iff_eq, decide_eq_true_eq] at hb
        obtain ⟨hn, hle⟩ := hb
        obtain ⟨hv1, hv2⟩ := cellsOf_rep hc0 hxv
        have hlen : v.cells.size = n := by rw [← hn, repAll_length hv1]; simp
        have hcl : c.size = cs.length := by rw [repAll_length hr]; simp
        obtain ⟨c1, hc1⟩ : ∃ c1, c1 = v.cells.zipIdx.foldl (fun cs (c, j) => cs.setIfInBounds (o + j) c) c := ⟨_, rfl⟩
        have hput : c1.toList = c.toList.take o ++ v.cells.toList ++ c.toList.drop (o + v.cells.toList.length) := by
          have key : ∀ (l : List Value) (k : Nat) (d : Array Value), o + k + l.length ≤ d.size →
              ((l.zipIdx k).foldl (fun cs (c, j) => cs.setIfInBounds (o + j) c) d).toList = d.toList.take (o + k) ++ l ++ d.toList.drop (o + k + l.length) := by
            intro l
            induction l with
            | nil => intro k d _; simp
            | cons y l ih =>
              intro k d hd
              simp only [List.zipIdx_cons, List.foldl_cons, List.length_cons] at hd ⊢
              rw [ih (k + 1) _ (by simp; omega)]
              simp only [Array.toList_setIfInBounds]
              apply List.ext_getElem?
              intro m
              by_cases h3 : m < o + k
              · rw [List.getElem?_append_left (by simp; omega), List.getElem?_append_left (by simp; omega), List.getElem?_append_left (by simp; omega), List.getElem?_append_left (by simp; omega)]
                rw [List.getElem?_take, List.getElem?_take, if_pos (by omega), if_pos (by omega), List.getElem?_set_ne (by omega)]
              · by_cases h4 : m = o + k
                · subst h4
                  rw [List.getElem?_append_left (by simp; omega), List.getElem?_append_left (by simp; omega), List.getElem?_append_left (by simp; omega), List.getElem?_append_right (by simp; omega)]
                  simp only [List.length_take, Array.length_toList]
                  rw [List.getElem?_take, if_pos (by omega)]
                  have : o + k - min (o + k) d.size = 0 := by omega
                  rw [this]
                  have h9 : o + k < d.toList.length := by simp; omega
                  simp [List.getElem?_set_self h9]
                · by_cases h5 : m < o + k + 1 + l.length
                  · have L : (List.take (o + (k + 1)) (d.toList.set (o + k) y) ++ l ++ List.drop (o + (k + 1) + l.length) (d.toList.set (o + k) y))[m]? = l[m - (o + k + 1)]? := by
                      rw [List.getElem?_append_left (by simp; omega), List.getElem?_append_right (by simp; omega)]
                      congr 1
                      simp; omega
                    have R : (List.take (o + k) d.toList ++ y :: l ++ List.drop (o + k + (l.length + 1)) d.toList)[m]? = l[m - (o + k + 1)]? := by
                      rw [List.getElem?_append_left (by simp; omega), List.getElem?_append_right (by simp; omega)]
                      have e2 : m - (List.take (o + k) d.toList).length = (m - (o + k + 1)) + 1 := by simp; omega
                      rw [e2, List.getElem?_cons_succ]
                    rw [L, R]
                  · rw [List.getElem?_append_right (by simp; omega), List.getElem?_append_right (by simp; omega)]
                    simp only [List.length_append, List.length_take, List.length_set, Array.length_toList, List.getElem?_drop, List.length_cons]
                    rw [List.getElem?_set_ne (by omega)]
                    congr 1
                    omega
          have := key v.cells.toList 0 c (by simp; omega)
          simp only [Nat.add_zero] at this
          rw [← this, hc1, ← Array.foldl_toList]
          simp
        have hih := layA_sound r vals (splice cs o c0) cs' c1 h (by simpa using hl)
          (fun i p v hp hv' => hv (i + 1) p v (by simpa using hp) (by simpa using hv'))
          (by rw [hput]; exact repAll_splice hr hv1)
          (fun y hy => by
            rw [hput] at hy
            simp only [List.mem_append] at hy
            rcases hy with (hy | hy) | hy
            · exact h1 y (List.mem_of_mem_take hy)
            · exact hv2 y hy
            · exact h1 y (List.mem_of_mem_drop hy))
        obtain ⟨c', hf, hsz, hrest⟩ := hih
        refine ⟨c', ?_, ?_, hrest⟩
        · simp only [Instr.fill, hp]
          rw [if_neg (by simp [hlen, hcl]; omega), ← hc1]
          exact hf
        · rw [hsz]
          have := congrArg List.length hput
          simp only [List.length_append, List.length_take, List.length_drop, Array.length_toList] at this
          omega
      · simp only [Bool.not_eq_true] at hb
        rw [hb] at h
        simp at h
    · cases h
end
end Go.AX
end
