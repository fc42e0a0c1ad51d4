/- Rules of proof over abstract values, for any program. -/
import Derived.Test.YtgcglnaffdgpbaaGreatDoorRuleC
import Derived.Deep.LoopGhost
section
/- Soundness of the operations: all of them together; then of the code, and a function's contract. -/
namespace Go.AX
open Go

section
variable {P : Program} {gl : Globs} {w : World} {M : Marks} {σ : Store}

theorem append_none {t u ty e : TypeId} {i : TypeInfo} {du : TypeDesc} (ht : P.underlying t = some (.slice e)) (hu : P.underlying u = some du) (hdu : ∀ k, du ≠ .int k) (hi : P.info? e = some i)
    {x : Value} {news : List Value} (hlen : ∀ w2 : World, (Builtin.lenOf x).run P w2 = .ok 0 w2) (hnew : (Builtin.firstCells i.size 0 x).run P w = .ok news.toArray w) :
    (Builtin.append_ #[t, u] ty #[.slice none 0 0, x]).run P w = .ok (.slice none 0 0) w := by
  simp [Builtin.append_, run_und ht, run_und hu, run_size hi, hlen, hnew]

theorem append_mt {t u ty e : TypeId} {i : TypeInfo} {du : TypeDesc} (ht : P.underlying t = some (.slice e)) (hu : P.underlying u = some du) (hdu : ∀ k, du ≠ .int k) (hi : P.info? e = some i)
    {ad : Addr} {x : Value} {news : List Value} (hlen : ∀ w2 : World, (Builtin.lenOf x).run P w2 = .ok 0 w2) (hnew : (Builtin.firstCells i.size 0 x).run P w = .ok news.toArray w) (hn : news = []) :
    (Builtin.append_ #[t, u] ty #[.slice (some ad) 0 0, x]).run P w = .ok (.slice (some ad) 0 0) w := by
  subst hn
  simp [Builtin.append_, run_und ht, run_und hu, run_size hi, hlen, hnew, storeCells]
/-- An own block takes the place of another one. -/
theorem stp_reown {gl w M σ b cs} (h : Inv gl w M σ) (hl : look σ b = some (.own cs)) {c c' : Array Value} {e : TypeId} {cs' : List AV}
    (hb : w.heap[b]? = some (.cells c e)) (hs : c'.size = c.size) (hr : repAll w M cs' c'.toList) (h1 : ∀ v ∈ c'.toList, v.oneCell' = true) :
    Stp gl w M σ (setBlk w b (.cells c' e)) M ((b, .own cs') :: del σ b) := by
  have s1 := Stp.set h hl hb hs hr h1
  refine s1.perm ?_
  have key : ∀ (σ : Store), (keys σ).Nodup → look σ b = some (.own cs) → (setAt σ b (.own cs')).Perm ((b, .own cs') :: del σ b) := by
    intro σ
    induction σ with
    | nil => intro _ hl; simp [look] at hl
    | cons q r ih =>
      intro hn hl
      obtain ⟨k, o⟩ := q
      have hn' : k ∉ keys r ∧ (keys r).Nodup := by simpa [keys] using hn
      simp only [setAt, del, look] at hl ⊢
      by_cases hbk : b = k
      · subst hbk; simp
      · have : (b == k) = false := by simpa using hbk
        simp only [this, cond_false] at hl ⊢
        exact ((ih hn'.2 hl).cons _).trans (List.Perm.swap _ _ _)
  exact (key σ h.nodup hl).symm

theorem appendWp_sound {t u ty e : TypeId} {own : Bool} {te : TyI} (hte : TI P e = some te) {du : TypeDesc} (ht : P.underlying t = some (.slice e)) (hu : P.underlying u = some du) (hdu : ∀ k, du ≠ .int k)
    (hI : Inv gl w M σ) {a x : AV} {v1 v2 : Value} {K : AV → Store → Prop} (ha : rep w M a v1) (hx : rep w M x v2) (h : appendWp own te a x σ K) :
    ∃ r w' M' av σ', (Builtin.append_ #[t, u] ty #[v1, v2]).run P w = .ok r w' ∧ K av σ' ∧ Stp gl w M σ w' M' σ' ∧ rep w' M' av r := by
  obtain ⟨i, d, z, hi, hd, hz, rfl, hzs, hz1⟩ := TI_inv hte
  unfold appendWp at h
  simp only at h
  split at h
  · cases h
  rename_i ys hys
  obtain ⟨news, hlen, hnew, hnl, hnr, hn1, hrow⟩ := rowsIn_sound (P := P) hI hys hx
  have hzs' : z.cells.size = i.size := by simpa using hzs
  -- what a new block gives
  have fresh_block : ∀ (olds : List Value) (xs : List (List AV)) (cap : Nat) (τ : Store), Inv gl w M τ → τ.Sublist σ → 0 < i.size → olds.length = xs.length * i.size → repAll w M xs.flatten olds → (∀ v ∈ olds, v.oneCell' = true) → (∀ e ∈ xs, e.length = i.size) →
      xs.length + ys.length ≤ cap →
      ∃ M', Stp gl w M σ (w.drew.alloc (.cells (olds.toArray ++ news.toArray ++ Builtin.zeroCells z.cells (cap - (xs.length + ys.length))) e)) M' ((w.heap.size, .tail ((xs.length + ys.length) * i.size)) :: τ) ∧
        rep (w.drew.alloc (.cells (olds.toArray ++ news.toArray ++ Builtin.zeroCells z.cells (cap - (xs.length + ys.length))) e)) M' (.vec w.heap.size i.size (xs ++ ys)) (.slice (some ⟨w.heap.size, 0, none⟩) (xs.length + ys.length) cap) := by
    intro olds xs cap τ hτ hsub h0 hol hor ho1 horow hcap
    have s1 : Stp gl w M σ w.drew M τ := (Stp.drew hI).sub hsub
    have hI2 := s1.inv
    have hsz : w.drew.heap.size = w.heap.size := rfl
    obtain ⟨c, hc⟩ : ∃ c, c = olds.toArray ++ news.toArray ++ Builtin.zeroCells z.cells (cap - (xs.length + ys.length)) := ⟨_, rfl⟩
    rw [← hc]
    have hcs : c.size = cap * i.size := by
      rw [hc]
      simp only [Array.size_append, List.size_toArray, hol, hnl, size_zeroCells, hzs']
      rw [← Nat.add_mul, ← Nat.add_mul]
      congr 1; omega
    have hm : (xs.length + ys.length) * i.size ≤ c.size := by rw [hcs]; exact Nat.mul_le_mul_right _ hcap
    have s2 := Stp.new hI2 c e ((xs.length + ys.length) * i.size) hm
    rw [hsz] at s2
    have s3 : Stp gl w.drew M τ (w.drew.alloc (.cells c e)) (updM M w.heap.size ((xs.length + ys.length) * i.size)) ((w.heap.size, .tail ((xs.length + ys.length) * i.size)) :: τ) :=
      s2.cons ⟨c, e, heap_alloc_new w.drew _, by simp [updM]⟩ (hI2.fresh (Nat.le_refl _)) (Nat.le_refl _)
    refine ⟨_, s1.trans s3, ?_⟩
    simp only [rep]
    have hall : repAll w M (xs ++ ys).flatten (olds ++ news) := by rw [List.flatten_append]; exact repAll_append hor hnr
    have hk := (s1.trans s3).ext.keeps
    refine ⟨cap, e, c.size, by simp, by simpa using hcap, rows_flat (vs := olds ++ news) (fun y hy => (List.mem_append.1 hy).elim (horow y) (hrow y)) (repAll.keep hk _ _ hall) (fun v hv => (List.mem_append.1 hv).elim (ho1 v) (hn1 v)) fun j v hv => ?_, ?_, by rw [hcs]; exact Nat.le_refl _⟩
    · have hj : j < (olds ++ news).length := (List.getElem?_eq_some_iff.1 hv).1
      refine ⟨?_, ?_⟩
      · simp only [updM, if_true, Nat.zero_add]
        simp only [List.length_append, hol, hnl, ← Nat.add_mul] at hj
        exact hj
      · have h4 : (w.drew.alloc (.cells c e)).heap[w.heap.size]? = some (.cells c e) := heap_alloc_new w.drew _
        have h5 : c[j]? = some v := by
          rw [hc]
          have : (olds.toArray ++ news.toArray) = (olds ++ news).toArray := by simp
          rw [this, Array.getElem?_append_left (by simpa using hj)]
          simpa using hv
        simp only [World.cell?, Nat.zero_add, h4]
        simpa using h5
    · have h4 : (w.drew.alloc (.cells c e)).heap[w.heap.size]? = some (.cells c e) := heap_alloc_new w.drew _
      simp only [World.shape?, h4]
  have hzones : 0 < i.size → ∀ n, ∀ v ∈ (Builtin.zeroCells z.cells n).toList, v.oneCell' = true := fun h0 n => zeros_one hz1 (by omega) n
  have fresh_own : ∀ (olds : List Value) (pre : List AV) (m cap : Nat) (τ : Store), Inv gl w M τ → τ.Sublist σ → 0 < i.size → olds.length = m * i.size → repAll w M pre olds → (∀ v ∈ olds, v.oneCell' = true) → m + ys.length ≤ cap →
      ∃ M' rest, cap * i.size ≤ (m + ys.length) * i.size + rest.length ∧ Stp gl w M σ (w.drew.alloc (.cells (olds.toArray ++ news.toArray ++ Builtin.zeroCells z.cells (cap - (m + ys.length))) e)) M' ((w.heap.size, .own (pre ++ ys.flatten ++ rest)) :: τ) := by
    intro olds pre m cap τ hτ hsub h0 hol hor ho1 hcap
    have s1 : Stp gl w M σ w.drew M τ := (Stp.drew hI).sub hsub
    have hI2 := s1.inv
    obtain ⟨rest, hrest⟩ : ∃ rest : List AV, rest = (Builtin.zeroCells z.cells (cap - (m + ys.length))).toList.map ofCell := ⟨_, rfl⟩
    obtain ⟨c, hc⟩ : ∃ c, c = olds.toArray ++ news.toArray ++ Builtin.zeroCells z.cells (cap - (m + ys.length)) := ⟨_, rfl⟩
    have hcl : c.toList = olds ++ news ++ (Builtin.zeroCells z.cells (cap - (m + ys.length))).toList := by rw [hc]; simp
    have hr : repAll w.drew M (pre ++ ys.flatten ++ rest) c.toList := by
      rw [hcl, hrest]
      exact repAll_append (repAll_append (repAll.keep (Keeps.drew w M) _ _ hor) (repAll.keep (Keeps.drew w M) _ _ hnr)) zero_rep
    have h1 : ∀ v ∈ c.toList, v.oneCell' = true := by
      rw [hcl]
      intro v hv
      rcases List.mem_append.1 hv with hv | hv
      · exact (List.mem_append.1 hv).elim (ho1 v) (hn1 v)
      · exact hzones h0 _ v hv
    rw [← hc]
    have s2 := new_own (c := c) (cs := pre ++ ys.flatten ++ rest) (e := e) hI2 hr h1
    refine ⟨_, rest, ?_, s1.trans s2⟩
    have hzl : rest.length = (cap - (m + ys.length)) * i.size := by rw [hrest, List.length_map, Array.length_toList, size_zeroCells, hzs']
    rw [hzl, ← Nat.add_mul]
    exact Nat.mul_le_mul_right _ (by omega)
  -- onto something of no room
  have onto_none : ∀ (base : Option Addr), 0 < i.size → ys.length ≤ 70368744177664 → ys.length * i.bytes ≤ 70368744177664 → ys ≠ [] → newBuf own i.size ys σ K →
      ∃ r w' M' av σ', (Builtin.append_ #[t, u] ty #[.slice base 0 0, v2]).run P w = .ok r w' ∧ K av σ' ∧ Stp gl w M σ w' M' σ' ∧ rep w' M' av r := by
    intro base h0 hl hb hne hK
    have hpos : 0 < ys.length := List.length_pos_iff.2 hne
    obtain ⟨cap, hcap, hrun⟩ := append_grow (w := w) (ty := ty) (base := base) (sLen := 0) (sCap := 0) (olds := []) ht hu hdu hi hz hlen (fun w2 _ => by cases base <;> simp [Builtin.firstCells, loadCells, loadCellsFrom]) hnew (by omega) (by omega) (by simpa using hb)
    unfold newBuf at hK
    cases own with
    | true =>
      simp only [cond_true] at hK
      obtain ⟨M', rest, hrl, hs⟩ := fresh_own [] [] 0 cap σ hI (List.Sublist.refl _) h0 (by simp) (by simp [repAll]) (by simp) (by simpa using hcap)
      simp only [Nat.zero_add, List.nil_append] at hs hrun hrl hcap
      exact ⟨_, _, M', _, _, hrun, hK w.heap.size cap rest (fresh_of (hI.fresh (Nat.le_refl _))) hcap hrl, hs, by simp [rep]⟩
    | false =>
      simp only [cond_false] at hK
      obtain ⟨M', hs, hr⟩ := fresh_block [] [] cap σ hI (List.Sublist.refl _) h0 (by simp) (by simp [repAll]) (by simp) (by simp) (by simpa using hcap)
      simp only [List.length_nil, List.nil_append, Nat.zero_add] at hs hr hrun
      exact ⟨_, _, M', _, _, hrun, hK w.heap.size (fresh_of (hI.fresh (Nat.le_refl _))), hs, hr⟩
  split at h
  · obtain ⟨⟨h0, hl, hb⟩, hK0, hK1⟩ := h
    simp only [rep] at ha; subst ha
    by_cases hy : ys = []
    · subst hy
      exact ⟨_, w, M, _, σ, append_none ht hu hdu hi hlen (hnew w rfl), hK0 rfl, Stp.refl hI, by simp [rep]⟩
    · exact onto_none none h0 hl hb hy (hK1 hy)
  · obtain ⟨⟨h0, hl, hb⟩, hK0, hK1⟩ := h
    have ha2 := ha
    simp only [rep] at ha
    obtain ⟨ad, rfl⟩ := ha
    by_cases hy : ys = []
    · subst hy
      exact ⟨_, w, M, _, σ, append_mt ht hu hdu hi hlen (hnew w rfl) (by simpa using hnl), hK0 rfl, Stp.refl hI, ha2⟩
    · exact onto_none (some ad) h0 hl hb hy (hK1 hy)
  · rename_i b sz xs
    obtain ⟨rfl, h⟩ := h
    split at h
    · rename_i n hlook
      obtain ⟨rfl, ⟨h0, hl, hb⟩, hK⟩ := h
      have ha' := ha
      simp only [rep] at ha
      obtain ⟨cap, e', nn, rfl, hcap, hrx, hshape, hsz⟩ := ha
      obtain ⟨cur, e2, hh, hM⟩ := hI.objs _ (look_mem hlook)
      simp only at hh hM
      obtain ⟨olds, hol, hoc, hor, ho1, horow⟩ := rows_list hrx
      have hcur : cur.size = nn := by
        simp only [World.shape?, hh, Option.some.injEq, Prod.mk.injEq] at hshape
        exact hshape.2
      have hdelI : Inv gl w M (del σ b) := hI.sub (del_sublist σ b)
      by_cases hroom : xs.length + ys.length ≤ cap
      · have hrun := append_room (w := w) (ty := ty) (t := t) (u := u) ht hu hdu hi (sLen := xs.length) hlen (hnew w rfl) hnl hn1 hroom hh (by rw [hcur]; exact hsz)
        have hfit : (xs.length + ys.length) * i.size ≤ cur.size := by rw [hcur]; exact Nat.le_trans (Nat.mul_le_mul_right _ hroom) hsz
        have hfit' : xs.length * i.size + ys.length * i.size ≤ cur.size := by rw [← Nat.add_mul]; exact hfit
        obtain ⟨c', hc'⟩ : ∃ c', c' = (cur.toList.take (xs.length * i.size) ++ news ++ cur.toList.drop (xs.length * i.size + news.length)).toArray := ⟨_, rfl⟩
        rw [← hc'] at hrun
        have hcs : c'.size = cur.size := by rw [hc']; simp [hnl]; omega
        have hg := Stp.grow hI hlook hh hcs (m := (xs.length + ys.length) * i.size) (Nat.mul_le_mul_right _ (by omega)) (by rw [hcs]; exact hfit) (fun o ho => by
          rw [hc', List.getElem?_toArray, List.append_assoc, List.getElem?_append_left (by simp; omega), List.getElem?_take, if_pos ho]; simp)
        refine ⟨_, _, _, _, _, hrun, hK b (fresh_of (not_mem_del hI.nodup)), hg, ?_⟩
        simp only [rep]
        have hlt := (Array.getElem?_eq_some_iff.1 hh).1
        refine ⟨cap, e', nn, by simp, by simpa using hroom, repRows_append (repRows.keep hg.ext.keeps _ _ _ _ hrx) (rows_flat (vs := news) hrow (repAll.keep hg.ext.keeps _ _ hnr) hn1 fun j v hv => ?_), by rw [shape?_setBlk hh hcs]; exact hshape, hsz⟩
        have hj : j < news.length := (List.getElem?_eq_some_iff.1 hv).1
        refine ⟨?_, ?_⟩
        · simp only [updM, if_true, Nat.zero_add]
          rw [hnl] at hj
          rw [Nat.add_mul]; omega
        · have h5 : c'[0 + xs.length * i.size + j]? = some v := by
            rw [hc', List.getElem?_toArray, List.append_assoc, List.getElem?_append_right (by simp; omega), List.getElem?_append_left (by simp; omega)]
            have : 0 + xs.length * i.size + j - (List.take (xs.length * i.size) cur.toList).length = j := by simp; omega
            rw [this]; exact hv
          simp only [World.cell?, heap_setBlk_same _ hlt]
          simpa using h5
      · have hold : ∀ w2 : World, w2.heap = w.heap → (Builtin.firstCells i.size xs.length (.slice (some ⟨b, 0, none⟩) xs.length cap)).run P w2 = .ok olds.toArray w2 := fun w2 hw =>
          run_firstCells_some w2 i.size xs.length ⟨b, 0, none⟩ xs.length cap olds hol fun j v hv => by
            rw [addr_add]; simpa [World.cell?, hw] using hoc j v hv
        obtain ⟨cap', hcap', hrun⟩ := append_grow (w := w) (ty := ty) ht hu hdu hi hz hlen hold hnew (by omega) (by omega) hb
        obtain ⟨M', hs, hr⟩ := fresh_block olds xs cap' (del σ b) hdelI (del_sublist σ b) h0 hol hor ho1 horow hcap'
        exact ⟨_, _, M', _, _, hrun, hK w.heap.size (fresh_of (hdelI.fresh (Nat.le_refl _))), hs, hr⟩
    · cases h
  · rename_i b n c
    split at h
    · rename_i cs hlook
      obtain ⟨⟨h0, hnc, hcl, hl, hb⟩, hK⟩ := h
      simp only [rep] at ha; subst ha
      obtain ⟨cur, e2, hh, hM, hrc, h1c⟩ := hI.objs _ (look_mem hlook)
      simp only at hh hM
      have hlen2 : cs.length = cur.size := by rw [repAll_length hrc]; simp
      have hdelI : Inv gl w M (del σ b) := hI.sub (del_sublist σ b)
      have hfit0 : n * i.size ≤ cur.size := by rw [← hlen2]; exact Nat.le_trans (Nat.mul_le_mul_right _ hnc) hcl
      by_cases hroom : n + ys.length ≤ c
      · have hrun := append_room (w := w) (ty := ty) (t := t) (u := u) ht hu hdu hi (sLen := n) hlen (hnew w rfl) hnl hn1 hroom hh (by omega)
        have hfit : (n + ys.length) * i.size ≤ cur.size := by rw [← hlen2]; exact Nat.le_trans (Nat.mul_le_mul_right _ hroom) hcl
        have hfit' : n * i.size + ys.length * i.size ≤ cur.size := by rw [← Nat.add_mul]; exact hfit
        obtain ⟨c', hc'⟩ : ∃ c', c' = (cur.toList.take (n * i.size) ++ news ++ cur.toList.drop (n * i.size + news.length)).toArray := ⟨_, rfl⟩
        rw [← hc'] at hrun
        have hcs : c'.size = cur.size := by rw [hc']; simp [hnl]; omega
        have hr' : repAll w M (cs.take (n * i.size) ++ ys.flatten ++ cs.drop (n * i.size + news.length)) c'.toList := by
          rw [hc']
          refine repAll_append (repAll_append ?_ hnr) ?_
          · refine repAll_of_get (by simp; omega) fun j a v ha hv => ?_
            rw [List.getElem?_take] at ha hv
            split at ha
            · rename_i hj
              rw [if_pos hj] at hv
              obtain ⟨v', hv', hr⟩ := repAll_get hrc _ _ ha
              rw [hv] at hv'; cases hv'; exact hr
            · cases ha
          · refine repAll_of_get (by simp; omega) fun j a v ha hv => ?_
            rw [List.getElem?_drop] at ha hv
            obtain ⟨v', hv', hr⟩ := repAll_get hrc _ _ ha
            rw [hv] at hv'; cases hv'; exact hr
        have h1' : ∀ v ∈ c'.toList, v.oneCell' = true := by
          rw [hc']
          intro v hv
          simp only [List.mem_append] at hv
          rcases hv with (hv | hv) | hv
          · exact h1c v (List.mem_of_mem_take hv)
          · exact hn1 v hv
          · exact h1c v (List.mem_of_mem_drop hv)
        have hg := stp_reown hI hlook hh hcs hr' h1'
        refine ⟨_, _, _, _, _, hrun, hK b c _ (fresh_of (not_mem_del hI.nodup)) hroom (Nat.le_refl _) ?_, hg, by simp [rep]⟩
        rw [List.length_drop, hnl, Nat.add_mul]
        omega
      · have hold : ∀ w2 : World, w2.heap = w.heap → (Builtin.firstCells i.size n (.slice (some ⟨b, 0, none⟩) n c)).run P w2 = .ok (cur.toList.take (n * i.size)).toArray w2 := fun w2 hw =>
          run_firstCells_some w2 i.size n ⟨b, 0, none⟩ n c _ (by simp; omega) fun j v hv => by
            rw [addr_add]
            rw [List.getElem?_take] at hv
            split at hv
            · have hv3 : cur[0 + j]? = some v := by simpa using hv
              simp only [World.cell?, hw, hh]
              simpa using hv3
            · cases hv
        obtain ⟨cap', hcap', hrun⟩ := append_grow (w := w) (ty := ty) ht hu hdu hi hz hlen hold hnew (by omega) (by omega) hb
        obtain ⟨M', rest, hrl, hs⟩ := fresh_own (cur.toList.take (n * i.size)) (cs.take (n * i.size)) n cap' (del σ b) hdelI (del_sublist σ b) h0 (by simp; omega) (by
          refine repAll_of_get (by simp; omega) fun j a v ha hv => ?_
          rw [List.getElem?_take] at ha hv
          split at ha
          · rename_i hj
            rw [if_pos hj] at hv
            obtain ⟨v', hv', hr⟩ := repAll_get hrc _ _ ha
            rw [hv] at hv'; cases hv'; exact hr
          · cases ha) (fun v hv => h1c v (List.mem_of_mem_take hv)) hcap'
        exact ⟨_, _, M', _, _, hrun, hK w.heap.size cap' rest (fresh_of (hdelI.fresh (Nat.le_refl _))) hcap' (by omega) hrl, hs, by simp [rep]⟩
    · cases h
  · cases h

theorem madeCells_eq {z : Array Value} (h0 : 0 < z.size) (n : Nat) : (madeCells z (n * z.size)).toList = reps n z.toList := by
  apply List.ext_getElem?
  intro j
  by_cases hj : j < n * z.size
  · rw [reps_get n j (by simpa using hj)]
    have h1 : j % z.size < z.size := Nat.mod_lt _ h0
    simp only [madeCells, Array.toList_map, Array.toList_range, List.getElem?_map, List.getElem?_range hj, Option.map_some, Array.length_toList]
    rw [getElem!_pos z _ h1]
    simp [h1]
  · rw [List.getElem?_eq_none (by simp [size_madeCells]; omega), List.getElem?_eq_none (by rw [reps_length]; simp; omega)]
theorem rowsOf_reps : ∀ (n : Nat) (l : List AV), rowsOf n l.length (reps n l) = List.replicate n l
  | 0, _ => rfl
  | n + 1, l => by
    simp only [rowsOf, reps, List.replicate_succ]
    rw [List.take_left' rfl, List.drop_left' rfl, rowsOf_reps n l]

/-- What an operation may do: a value in a world that goes on from this one, or a call that does. -/
def Does (P : Program) (gl : Globs) (o : Oper) (a : Act) (w : World) (M : Marks) (σ : Store) (K : AV → Store → Prop) : Prop :=
  ∀ (next : Act → World → Prop) (Q : Exit → Act → World → Prop), (∀ v w' M' r σ', K r σ' → Stp gl w M σ w' M' σ' → rep w' M' r v → next (a.put o.dst v) w') → o.wp P a w next Q

theorem does_value {o : Oper} {a : Act} {K : AV → Store → Prop} {s : Sem Value} (he : execOp a.eval o = (do pure (.value (← s))))
    (h : ∃ v w' M' r σ', s.run P w = .ok v w' ∧ K r σ' ∧ Stp gl w M σ w' M' σ' ∧ rep w' M' r v) : Does P gl o a w M σ K := by
  intro next Q hn
  obtain ⟨v, w', M', r, σ', hr, hK, hs, hv⟩ := h
  unfold Oper.wp
  rw [he, Sem.run_bind, hr]
  exact hn v w' M' r σ' hK hs hv
theorem does_pure {o : Oper} {a : Act} {K : AV → Store → Prop} {s : Sem Value} (hI : Inv gl w M σ) (he : execOp a.eval o = (do pure (.value (← s))))
    (h : ∃ v r, s.run P w = .ok v w ∧ K r σ ∧ rep w M r v) : Does P gl o a w M σ K :=
  does_value he (let ⟨v, r, h1, h2, h3⟩ := h; ⟨v, w, M, r, σ, h1, h2, Stp.refl hI, h3⟩)

theorem eqGuard_run {op : BinOp} {t : TypeId} {x y : Operand} {u v : Value} (h : ∀ a, u ≠ .agg a) (h2 : u ≠ .nilIface) : (eqGuard op t x y u v).run P w = .ok () w := by
  unfold eqGuard
  cases op <;> simp
  all_goals (split <;> simp_all)

theorem evs_rep {cf : Cfg} {ρ : Env} {a : Act} (hI : Inv gl w M σ) (hF : Fits cf w M ρ a) (l : List Operand) : repAll w M (l.map (ev gl ρ)) (l.map a.eval) :=
  repAll_of_get (by simp) fun i x v hx hv => by
    simp only [List.getElem?_map] at hx hv
    cases hl : l[i]? with
    | none => rw [hl] at hx; simp at hx
    | some q =>
      rw [hl] at hx hv
      simp at hx hv
      subst hx hv
      exact ev_rep hI hF q

theorem not_agg_of_bin {ty : Ty} {op : BinOp} {a b : AV} {u : Value} {K : AV → Prop} (ha : rep w M a u) (h : binWp ty op a b K) : (∀ c, u ≠ .agg c) ∧ u ≠ .nilIface := by
  unfold binWp at h
  split at h
  · simp only [rep] at ha; subst ha; exact ⟨by simp, by simp⟩
  · simp only [rep] at ha; subst ha; exact ⟨by simp, by simp⟩
  · simp only [rep] at ha; subst ha; exact ⟨by simp, by simp⟩
  · cases h
theorem not_agg_of_nil {ty : Ty} {op : BinOp} {a b : AV} {u : Value} {K : AV → Prop} (ha : rep w M a u) (h : nilWp ty op a b K) : (∀ c, u ≠ .agg c) ∧ u ≠ .nilIface := by
  unfold nilWp at h
  simp only at h
  split at h <;> first
    | (simp only [rep] at ha; subst ha; exact ⟨by simp, by simp⟩)
    | (simp only [rep] at ha; obtain ⟨_, _, _, rfl, _⟩ := ha; exact ⟨by simp, by simp⟩)
    | (simp only [rep] at ha; obtain ⟨_, _, rfl, _⟩ := ha; exact ⟨by simp, by simp⟩)
    | cases h

theorem run_buildSlice {t e : TypeId} {ei : TypeInfo} {ez : Value} {n : Nat} {parts : Array (Nat × Value)} {c' : Array Value} (hd : P.underlying t = some (.slice e)) (hei : P.info? e = some ei) (hez : ei.zero = some ez)
    (hle : n * ei.size ≤ 16777216) (hf : Instr.fill (fun i => some (i * ei.size, ei.size)) (madeCells ez.cells (n * ei.size)) parts.toList = some c') :
    (Instr.buildSlice t n parts).run P w = .ok (.slice (some ⟨w.heap.size, 0, none⟩) n n) (w.alloc (.cells c' e)) := by
  have hle' : ¬ (n * ei.size > 2 ^ 24) := by omega
  unfold Instr.buildSlice
  rw [Sem.run_bind, run_und hd]
  simp only [Result.andThen_ok, Sem.run_bind, run_size hei, hle', if_false]
  by_cases hn : n * ei.size = 0
  · have : madeCells ez.cells (n * ei.size) = #[] := by rw [hn]; simp [madeCells]
    rw [this] at hf
    rw [if_pos hn]
    show (match Instr.fill (fun i => some (i * ei.size, ei.size)) ((Array.range (n * ei.size)).map fun x => (#[] : Array Value)[x % (#[] : Array Value).size]!) parts.toList with
      | some cells => (do pure (Value.slice (some (← newRow e cells)) n n) : Sem Value)
      | _ => stuck "buildSlice: a part of the wrong size").run P w = _
    have h2 : ((Array.range (n * ei.size)).map fun x => (#[] : Array Value)[x % (#[] : Array Value).size]!) = #[] := by rw [hn]; simp
    rw [h2, hf]
    rfl
  · simp only [hn, if_false, Sem.run_bind, zeroValue, run_info hei, hez, Sem.run_pure, Result.andThen_ok]
    have : (Array.map (fun x => ez.cells[x % ez.cells.size]!) (Array.range (n * ei.size))) = madeCells ez.cells (n * ei.size) := rfl
    rw [this, hf]
    rfl
theorem buildSlice_sound {t e : TypeId} {ti te : TyI} (ht : TI P t = some ti) (he : ti.ty = .slice e) (hte : TI P e = some te) {own : Bool} {n : Nat} {as : List (Nat × AV)} {vals : Array (Nat × Value)} {cs : List AV} {K : AV → Store → Prop}
    (hI : Inv gl w M σ) (h : 0 < te.sz ∧ n * te.sz ≤ 16777216) (hcs : layA (fun i => some (i * te.sz, te.sz)) as (reps n (te.zero.map ofCell)) = some cs)
    (hp1 : as.length = vals.toList.length) (hp2 : ∀ (i : Nat) (p : Nat × AV) (v : Nat × Value), as[i]? = some p → vals.toList[i]? = some v → p.1 = v.1 ∧ rep w M p.2 v.2)
    (hK : bif own then ∀ b, fresh b σ → K (.vec b te.sz (rowsOf n te.sz cs)) ((b, .tail (n * te.sz)) :: σ) else bif n == 0 then K .mt σ else K (.list te.sz (rowsOf n te.sz cs)) σ) :
    ∃ v w' M' r σ', (Instr.buildSlice t n vals).run P w = .ok v w' ∧ K r σ' ∧ Stp gl w M σ w' M' σ' ∧ rep w' M' r v := by
  obtain ⟨i, d, z, hi, hd, hz, rfl, hzs, hz1⟩ := TI_inv ht
  have := of_slice he; subst this
  obtain ⟨ei, ed, ez, hei, hed, hez, rfl, hezs, hez1⟩ := TI_inv hte
  simp only at h hcs hK
  have hezs' : ez.cells.size = ei.size := by simpa using hezs
  have hmade : (madeCells ez.cells (n * ez.cells.size)).toList = reps n ez.cells.toList := madeCells_eq (by omega) n
  rw [hezs'] at hmade
  have hzr : repAll w M (reps n (ez.cells.toList.map ofCell)) (madeCells ez.cells (n * ei.size)).toList := by rw [hmade]; exact repAll_reps zero_rep n
  obtain ⟨c', hf, hsz, hr, hone⟩ := layA_sound _ _ _ _ (madeCells ez.cells (n * ei.size)) hcs hp1 hp2 hzr (fun v hv => by rw [hmade] at hv; exact hez1 v (mem_reps hv))
  have hcsz : c'.size = n * ei.size := by rw [hsz, size_madeCells]
  have hrun := run_buildSlice (w := w) hd hei hez h.2 hf
  have hlen : n * ei.size ≤ cs.length := by rw [repAll_length hr]; simp [hcsz]
  obtain ⟨hs0, hc⟩ := new_cells (c := c') (e := e) hI hr hone
  cases own with
  | true =>
    simp only [cond_true] at hK
    have hs := Stp.new hI c' e (n * ei.size) (by omega)
    have hs2 := hs.cons (b := w.heap.size) (o := .tail (n * ei.size)) ⟨c', e, heap_alloc_new w _, by simp [updM]⟩ (hI.fresh (Nat.le_refl _)) (Nat.le_refl _)
    refine ⟨_, _, _, _, _, hrun, hK w.heap.size (fresh_of (hI.fresh (Nat.le_refl _))), hs2, ?_⟩
    simp only [rep, rowsOf_length]
    refine ⟨n, e, c'.size, rfl, Nat.le_refl _, ?_, by simp only [World.shape?, heap_alloc_new], by omega⟩
    rw [← hcsz]
    exact rows_of_cells (e := e) (c := c') _ _ _ _ hlen hc
  | false =>
    simp only [cond_false] at hK
    cases hn : n == 0 with
    | true =>
      have hn' : n = 0 := by simpa using hn
      subst hn'
      simp only [BEq.rfl, cond_true] at hK
      exact ⟨_, _, _, _, _, hrun, hK, hs0, by simp only [rep]; exact ⟨_, rfl⟩⟩
    | false =>
      simp only [hn, cond_false] at hK
      refine ⟨_, _, _, _, _, hrun, hK, hs0, ?_⟩
      simp only [rep, rowsOf_length]
      exact ⟨_, n, rfl, Nat.le_refl _, .inr ⟨_, _, rfl, rows_of_cells (e := e) (c := c') _ _ _ _ hlen hc⟩⟩
theorem makeSlice_sound {t e : TypeId} {ti te : TyI} (ht : TI P t = some ti) (he : ti.ty = .slice e) (hte : TI P e = some te) {own : Bool} {n m : Int} {K : AV → Store → Prop}
    (hI : Inv gl w M σ) (h : 0 < te.sz ∧ 0 ≤ n ∧ n ≤ m ∧ m * te.by_ ≤ 140737488355328 ∧ m ≤ 140737488355328)
    (hK : bif own then ∀ b, fresh b σ → K (.msl b 0 n.toNat m.toNat) ((b, .own (reps m.toNat (te.zero.map ofCell))) :: σ) else n = m ∧ K (.list te.sz (List.replicate n.toNat (te.zero.map ofCell))) σ) :
    ∃ v w' M' r σ', (Instr.makeSlice t (.int .i64 n) (.int .i64 m)).run P w = .ok v w' ∧ K r σ' ∧ Stp gl w M σ w' M' σ' ∧ rep w' M' r v := by
  obtain ⟨i, d, z, hi, hd, hz, rfl, hzs, hz1⟩ := TI_inv ht
  have := of_slice he; subst this
  obtain ⟨ei, ed, ez, hei, hed, hez, rfl, hezs, hez1⟩ := TI_inv hte
  obtain ⟨h0, h1, h2, h3, h4⟩ := h
  simp only at h0 h3 hK
  have hezs' : ez.cells.size = ei.size := by simpa using hezs
  have hrun := run_make (P := P) w t e ei ez hd hei hez .i64 .i64 n m h1 h2 (by rw [Int.mul_comm]; omega) (by omega)
  have hmade : (madeCells ez.cells (m.toNat * ei.size)).toList = reps m.toNat ez.cells.toList := by rw [← hezs']; exact madeCells_eq (by omega) _
  have hzr : repAll w M (reps m.toNat (ez.cells.toList.map ofCell)) (madeCells ez.cells (m.toNat * ei.size)).toList := by rw [hmade]; exact repAll_reps zero_rep _
  have hone : ∀ v ∈ (madeCells ez.cells (m.toNat * ei.size)).toList, v.oneCell' = true := fun v hv => by rw [hmade] at hv; exact hez1 v (mem_reps hv)
  cases own with
  | true =>
    simp only [cond_true] at hK
    have hs := new_own (e := e) hI hzr hone
    exact ⟨_, _, _, _, _, hrun, hK w.heap.size (fresh_of (hI.fresh (Nat.le_refl _))), hs, by simp [rep]⟩
  | false =>
    simp only [cond_false] at hK
    obtain ⟨rfl, hK⟩ := hK
    obtain ⟨hs, hc⟩ := new_cells (e := e) hI hzr hone
    refine ⟨_, _, _, _, _, hrun, hK, hs, ?_⟩
    simp only [rep, List.length_replicate]
    refine ⟨_, _, rfl, Nat.le_refl _, .inr ⟨_, _, rfl, ?_⟩⟩
    have hlen : (ez.cells.toList.map ofCell).length = ei.size := by simp [hezs']
    have := rows_of_cells (e := e) (c := #[]) ei.size n.toNat 0 _ (by rw [reps_length, hlen]; exact Nat.le_refl _) hc
    rw [← hlen, rowsOf_reps, hlen] at this
    exact this

theorem call_does {cf : Cfg} {dst : Option Tmp} {c : Call} {type : TypeId} {pos : String} {after : Array Edge} {guard : Option (Nat × Bool)} {ρ : Env} {a : Act} {K : AV → Store → Prop} {f : Operand} {g : FuncId} {first caps : List AV}
    (hf : c.callee = .value f) (he : ev gl ρ f = .clos (.func g) first caps) (hI : Inv gl w M σ) (hF : Fits cf w M ρ a)
    (h : CallWp P gl g (first ++ c.args.toList.map (ev gl ρ) ++ caps) σ K) : Does P gl ⟨dst, .call c, type, pos, after, guard⟩ a w M σ K := by
  intro next Q hn
  have hx := ev_rep hI hF f
  rw [he] at hx
  simp only [rep] at hx
  obtain ⟨us, vs, hv, hus, hvs⟩ := hx
  obtain ⟨⟨fn, hfn, hname, hbody⟩, hcall⟩ := h
  have hargs := repAll_append (repAll_append hus (evs_rep hI hF c.args.toList)) hvs
  have hc := hcall w M _ hI hargs
  unfold Oper.wp
  have hrun : (execOp a.eval ⟨dst, .call c, type, pos, after, guard⟩).run P w = .ok (.enter g (us ++ c.args.toList.map a.eval ++ vs).toArray) w := by
    simp only [execOp, resolve, hf, hv, Deferred.ofValue, Sem.run_bind, Sem.run_pure, Result.andThen_ok, invoke, callFunc, run_program, hfn, hname, hbody]
    simp only [Bool.false_eq_true, if_false, Sem.run_pure]
    congr 2
    apply Array.ext'
    simp
  rw [hrun]
  refine hc.mono fun e w' he => ?_
  obtain ⟨v, M', r, σ', rfl, hK, hs, hr⟩ := he
  exact hn v w' M' r σ' hK hs hr
theorem setAt_look : ∀ {σ : Store} {b : Nat} {o : AObj}, look σ b = some o → setAt σ b o = σ
  | [], _, _, h => by simp [look] at h
  | (k, x) :: r, b, o, h => by
    simp only [look, setAt] at h ⊢
    by_cases hb : b = k
    · subst hb; simp at h; simp [h]
    · have : (b == k) = false := by simpa using hb
      simp only [this, cond_false] at h ⊢
      rw [setAt_look h]
theorem zeroCells_reps {z : Array Value} (h0 : 0 < z.size) (n : Nat) : (Builtin.zeroCells z n).toList = reps n z.toList := madeCells_eq h0 n
theorem clear_sound {t ty e : TypeId} {ti te : TyI} (ht : TI P t = some ti) (he : ti.ty = .slice e) (hte : TI P e = some te) (hI : Inv gl w M σ) {b o n c : Nat} {cs : List AV} (hl : look σ b = some (.own cs)) {K : AV → Store → Prop}
    (h : 0 < te.sz ∧ o + n * te.sz ≤ cs.length) (hK : K (.tup []) (setAt σ b (.own (splice cs o (reps n (te.zero.map ofCell)))))) :
    ∃ v w' M' r σ', (Builtin.clear_ #[t] ty #[.slice (some ⟨b, o, none⟩) n c]).run P w = .ok v w' ∧ K r σ' ∧ Stp gl w M σ w' M' σ' ∧ rep w' M' r v := by
  obtain ⟨i, d, z, hi, hd, hz, rfl, _, _⟩ := TI_inv ht
  have := of_slice he; subst this
  obtain ⟨ei, ed, ez, hei, hed, hez, rfl, hezs, hez1⟩ := TI_inv hte
  simp only at h hK
  have hezs' : ez.cells.size = ei.size := by simpa using hezs
  have hrt : rep w M (.tup []) (.tuple #[]) := by simp [rep, repAll]
  by_cases hn : n = 0
  · subst hn
    have : splice cs o (reps 0 (ez.cells.toList.map ofCell)) = cs := by simp [splice, reps]
    rw [this, setAt_look hl] at hK
    exact ⟨.tuple #[], w, M, _, σ, by simp [Builtin.clear_, run_und hd], hK, Stp.refl hI, hrt⟩
  obtain ⟨cur, e', hb, hM, hr, h1⟩ := hI.objs _ (look_mem hl)
  simp only at hb
  have hlen : cs.length = cur.size := by rw [repAll_length hr]; simp
  have hzl := zeroCells_reps (z := ez.cells) (by omega) n
  have hzn : (Builtin.zeroCells ez.cells n).toList.length = n * ei.size := by rw [hzl, reps_length]; simp [hezs']
  have hone : ∀ v ∈ (Builtin.zeroCells ez.cells n).toList, v.oneCell' = true := fun v hv => by rw [hzl] at hv; exact hez1 v (mem_reps hv)
  have hst := store_cells (P := P) (w := w) (off := o) hb (by rw [hzn]; omega) hone
  obtain ⟨c', hc'⟩ : ∃ c', c' = (cur.toList.take o ++ (Builtin.zeroCells ez.cells n).toList ++ cur.toList.drop (o + (Builtin.zeroCells ez.cells n).toList.length)).toArray := ⟨_, rfl⟩
  rw [← hc'] at hst
  have hcs : c'.size = cur.size := by rw [hc']; simp at hzn ⊢; omega
  have hr' : repAll w M (splice cs o (reps n (ez.cells.toList.map ofCell))) c'.toList := by
    rw [hc']
    have := repAll_splice (o := o) hr (k := (by rw [hzl]; exact repAll_reps zero_rep n : repAll w M (reps n (ez.cells.toList.map ofCell)) (Builtin.zeroCells ez.cells n).toList))
    simpa using this
  have h1' : ∀ v ∈ c'.toList, v.oneCell' = true := by
    rw [hc']
    intro v hv
    simp only [List.mem_append] at hv
    rcases hv with (hv | hv) | hv
    · exact h1 v (List.mem_of_mem_take hv)
    · exact hone v hv
    · exact h1 v (List.mem_of_mem_drop hv)
  have hs := Stp.set hI hl hb hcs hr' h1'
  refine ⟨.tuple #[], _, _, _, _, ?_, hK, hs, by simp [rep, repAll]⟩
  cases n with
  | zero => exact absurd rfl hn
  | succ n => simp [Builtin.clear_, run_und hd, zeroValue, run_info hei, hez, hst]
/-- Slicing. -/
theorem bnd_inv {x : Option AV} {v : Option Value} {d : Int} {K : Int → Prop} (h : bndWp x d K) (hr : ∀ a, x = some a → ∃ u, v = some u ∧ rep w M a u) (hn : x = none → v = none) :
    ∃ n, K n ∧ ((x = none ∧ v = none ∧ n = d) ∨ (∃ k, x = some (.raw (.int k n)) ∧ v = some (.int k n))) := by
  unfold bndWp at h
  split at h
  · exact ⟨d, h, .inl ⟨rfl, hn rfl, rfl⟩⟩
  · rename_i k n
    obtain ⟨u, hu, hr⟩ := hr _ rfl
    simp only [rep] at hr
    subst hr
    exact ⟨n, h, .inr ⟨k, rfl, hu⟩⟩
  · cases h
theorem bound_run {k : IntKind} {n : Int} {y : Nat} {code : BoundsCode} (h0 : 0 ≤ n) (h1 : n ≤ y) : (Instr.sliceBound (.int k n) y code).run P w = .ok n.toNat w := by
  simp [Instr.sliceBound, asIntOf, h0, h1]
theorem bounds_run {len cap : Nat} {lo hi mx : Option Value} {l h m : Int} (hm : (mx = none ∧ m = cap) ∨ ∃ k, mx = some (.int k m)) (hh : (hi = none ∧ mx = none ∧ h = len) ∨ ∃ k, hi = some (.int k h)) (hl : (lo = none ∧ l = 0) ∨ ∃ k, lo = some (.int k l))
    (h1 : 0 ≤ l) (h2 : l ≤ h) (h3 : h ≤ m) (h4 : m ≤ cap) : (Instr.sliceBounds true len cap lo hi mx).run P w = .ok (l.toNat, h.toNat, m.toNat) w := by
  have e1 : (h.toNat : Int) = h := by omega
  have e2 : (m.toNat : Int) = m := by omega
  unfold Instr.sliceBounds
  rcases hm with ⟨rfl, rfl⟩ | ⟨km, rfl⟩
  · rcases hh with ⟨rfl, _, rfl⟩ | ⟨kh, rfl⟩
    · rcases hl with ⟨rfl, rfl⟩ | ⟨kl, rfl⟩
      · simp
      · simp [bound_run h1 (show l ≤ (len : Int) by omega)]
    · rcases hl with ⟨rfl, rfl⟩ | ⟨kl, rfl⟩
      · simp [bound_run (show 0 ≤ h by omega) h3]
      · simp [bound_run (show 0 ≤ h by omega) h3, bound_run h1 (show l ≤ (h.toNat : Int) by omega)]
  · rcases hh with ⟨_, hx, _⟩ | ⟨kh, rfl⟩
    · cases hx
    · rcases hl with ⟨rfl, rfl⟩ | ⟨kl, rfl⟩
      · simp [bound_run (show 0 ≤ m by omega) h4, bound_run (show 0 ≤ h by omega) (show h ≤ (m.toNat : Int) by omega)]
      · simp [bound_run (show 0 ≤ m by omega) h4, bound_run (show 0 ≤ h by omega) (show h ≤ (m.toNat : Int) by omega), bound_run h1 (show l ≤ (h.toNat : Int) by omega)]
theorem rows_part {b o sz : Nat} {xs : List (List AV)} (hr : repRows w M b o sz xs) (l h : Nat) : repRows w M b (o + l * sz) sz ((xs.take h).drop l) := repRows_drop (repRows_take hr h) l
theorem sliceWp_sound {t e : TypeId} {ti te : TyI} (ht : TI P t = some ti) (he : ti.ty = .slice e) (hte : TI P e = some te) {a : AV} {u : Value} {lo hi mx : Option AV} {lo' hi' mx' : Option Value} {K : AV → Prop} (ha : rep w M a u)
    (hlo : ∀ a, lo = some a → ∃ u, lo' = some u ∧ rep w M a u) (hlo0 : lo = none → lo' = none) (hhi : ∀ a, hi = some a → ∃ u, hi' = some u ∧ rep w M a u) (hhi0 : hi = none → hi' = none) (hmx : ∀ a, mx = some a → ∃ u, mx' = some u ∧ rep w M a u) (hmx0 : mx = none → mx' = none)
    (h : sliceWp te.sz a lo hi mx K) : ∃ x r, (Instr.sliceAt t u lo' hi' mx').run P w = .ok x w ∧ K r ∧ rep w M r x := by
  obtain ⟨i, d, z, hi1, hd, hz, rfl, _, _⟩ := TI_inv ht
  have := of_slice he; subst this
  obtain ⟨ei, ed, ez, hei, hed, hez, rfl, _, _⟩ := TI_inv hte
  simp only at h
  have go : ∀ (A : Option Addr) (len cap : Nat) (l h m : Int), ((mx' = none ∧ m = cap) ∨ ∃ k, mx' = some (.int k m)) → ((hi' = none ∧ mx' = none ∧ h = len) ∨ ∃ k, hi' = some (.int k h)) → ((lo' = none ∧ l = 0) ∨ ∃ k, lo' = some (.int k l)) →
      0 ≤ l → l ≤ h → h ≤ m → m ≤ cap → (Instr.sliceAt t (.slice A len cap) lo' hi' mx').run P w = .ok (.slice (if m.toNat = l.toNat then A else A.map (·.add (l.toNat * ei.size))) (h.toNat - l.toNat) (m.toNat - l.toNat)) w := by
    intro A len cap l h m h1 h2 h3 h4 h5 h6 h7
    simp [Instr.sliceAt, Instr.slice, run_und hd, bounds_run h1 h2 h3 h4 h5 h6 h7, run_size hei]
  unfold sliceWp at h
  split at h
  · rename_i s xs
    obtain ⟨rfl, h⟩ := h
    split at h
    · obtain ⟨h', hh, hh2⟩ := bnd_inv h hhi hhi0
      obtain ⟨l, ⟨⟨b1, b2, b3⟩, hK⟩, hl2⟩ := bnd_inv hh hlo hlo0
      have hmn := hmx0 rfl
      simp only [rep] at ha
      obtain ⟨A, cap, rfl, hcap, hr⟩ := ha
      refine ⟨_, _, go A xs.length cap l h' cap (.inl ⟨hmn, rfl⟩) (hh2.elim (fun x => .inl ⟨x.2.1, hmn, x.2.2⟩) fun ⟨k, x⟩ => .inr ⟨k, x.2⟩) (hl2.elim (fun x => .inl ⟨x.2.1, x.2.2⟩) fun ⟨k, x⟩ => .inr ⟨k, x.2⟩) b1 b2 (by omega) (Int.le_refl _), hK, ?_⟩
      simp only [rep]
      refine ⟨_, cap - l.toNat, (by
        have e1 : ((xs.take h'.toNat).drop l.toNat).length = h'.toNat - l.toNat := by simp; omega
        rw [e1]; rfl), by simp; omega, ?_⟩
      rcases hr with rfl | ⟨b, o, rfl, hr⟩
      · left; simp
      · by_cases hcl : cap = l.toNat
        · left; simp; omega
        · right
          exact ⟨b, o + l.toNat * ei.size, by simp [hcl, addr_add], rows_part hr _ _⟩
    · cases h
  · rename_i b s xs
    obtain ⟨rfl, h⟩ := h
    split at h
    · obtain ⟨h', hh, hh2⟩ := bnd_inv h hhi hhi0
      obtain ⟨l, ⟨⟨b1, b2, b3⟩, hK⟩, hl2⟩ := bnd_inv hh hlo hlo0
      have hmn := hmx0 rfl
      simp only [rep] at ha
      obtain ⟨cap, e0, nn, rfl, hcap, hr, _⟩ := ha
      refine ⟨_, _, go _ xs.length cap l h' cap (.inl ⟨hmn, rfl⟩) (hh2.elim (fun x => .inl ⟨x.2.1, hmn, x.2.2⟩) fun ⟨k, x⟩ => .inr ⟨k, x.2⟩) (hl2.elim (fun x => .inl ⟨x.2.1, x.2.2⟩) fun ⟨k, x⟩ => .inr ⟨k, x.2⟩) b1 b2 (by omega) (Int.le_refl _), hK, ?_⟩
      simp only [rep]
      refine ⟨_, cap - l.toNat, (by
        have e1 : ((xs.take h'.toNat).drop l.toNat).length = h'.toNat - l.toNat := by simp; omega
        rw [e1]; rfl), by simp; omega, ?_⟩
      by_cases hcl : cap = l.toNat
      · left; simp; omega
      · right
        exact ⟨b, 0 + l.toNat * ei.size, by simp [hcl, addr_add], rows_part hr _ _⟩
    · cases h
  · rename_i b o n c
    simp only [rep] at ha
    subst ha
    split at h
    · cases h
    · rename_i hne
      obtain ⟨m, hm, hm2⟩ := bnd_inv h hmx hmx0
      obtain ⟨h', hh, hh2⟩ := bnd_inv hm hhi hhi0
      obtain ⟨l, ⟨⟨b1, b2, b3, b4⟩, hK⟩, hl2⟩ := bnd_inv hh hlo hlo0
      refine ⟨_, _, go _ n c l h' m (hm2.elim (fun x => .inl ⟨x.2.1, x.2.2⟩) fun ⟨k, x⟩ => .inr ⟨k, x.2⟩) ?_ (hl2.elim (fun x => .inl ⟨x.2.1, x.2.2⟩) fun ⟨k, x⟩ => .inr ⟨k, x.2⟩) b1 b2 b3 b4, hK, ?_⟩
      · rcases hh2 with ⟨x1, x2, x3⟩ | ⟨k, x⟩
        · rcases hm2 with ⟨y1, y2, y3⟩ | ⟨k, y1, y2⟩
          · exact .inl ⟨x2, y2, x3⟩
          · exact (hne _ y1 x1).elim
        · exact .inr ⟨k, x.2⟩
      · simp only [rep]
        have e1 : (m.toNat = l.toNat) ↔ m = l := by omega
        by_cases hml : m = l
        · have e2 : m.toNat = l.toNat := by omega
          have e3 : (h' - l).toNat = h'.toNat - l.toNat := by omega
          have e4 : (m - l).toNat = m.toNat - l.toNat := by omega
          rw [if_pos e2, if_pos hml, e3, e4]
          rfl
        · have e2 : ¬ m.toNat = l.toNat := by omega
          have e3 : (h' - l).toNat = h'.toNat - l.toNat := by omega
          have e4 : (m - l).toNat = m.toNat - l.toNat := by omega
          rw [if_neg e2, if_neg hml, e3, e4]
          simp [addr_add]
  · cases h
theorem builtin_does {own : Bool} {cf : Cfg} {dst : Option Tmp} {c : Call} {type : TypeId} {pos : String} {after : Array Edge} {guard : Option (Nat × Bool)} {ρ : Env} {a : Act} {K : AV → Store → Prop} {b : Builtin}
    (hb : c.callee = .builtin b) (hI : Inv gl w M σ) (hF : Fits cf w M ρ a)
    (h : builtinWp P own b c.argTypes (c.args.toList.map (ev gl ρ)) σ K) : Does P gl ⟨dst, .call c, type, pos, after, guard⟩ a w M σ K := by
  have hexec : execOp a.eval ⟨dst, .call c, type, pos, after, guard⟩ = builtin b c.argTypes type (c.args.map fun | .const _ => true | _ => false) (c.args.map a.eval) := by
    simp only [execOp, resolve, hb]
    rfl
  have hargs := evs_rep hI hF c.args.toList
  unfold builtinWp at h
  split at h
  · rename_i t x hts has
    have ht' : c.argTypes = #[t] := by apply Array.ext'; simpa using hts
    rw [has] at hargs
    simp only [repAll] at hargs
    obtain ⟨u, r, hu, hxu, rfl⟩ := hargs
    have ha' : c.args.map a.eval = #[u] := by apply Array.ext'; simpa using hu
    split at h
    · rename_i ti ht
      obtain ⟨v, r, h1, h2, h3⟩ := lenWp_sound (ty := type) ht hxu h
      exact does_pure (s := Builtin.len_ #[t] type #[u]) hI (by rw [hexec, ht', ha']; rfl) ⟨v, r, h1, h2, h3⟩
    · cases h
  · rename_i t u x y hts has
    have ht' : c.argTypes = #[t, u] := by apply Array.ext'; simpa using hts
    rw [has] at hargs
    simp only [repAll] at hargs
    obtain ⟨v1, r, hu, hx1, v2, r2, rfl, hx2, rfl⟩ := hargs
    have ha' : c.args.map a.eval = #[v1, v2] := by apply Array.ext'; simpa using hu
    split at h
    · rename_i ti ui ht hu'
      obtain ⟨i, d, z, hi, hd, hz, rfl, _, _⟩ := TI_inv ht
      obtain ⟨ui, ud, uz, hui, hud, huz, rfl, _, _⟩ := TI_inv hu'
      simp only at h
      split at h
      · rename_i e e2 h1 h2
        have := of_slice h1; subst this
        have := of_slice h2; subst this
        split at h
        · rename_i te hte
          exact does_value (s := Builtin.append_ #[t, u] type #[v1, v2]) (by rw [hexec, ht', ha']; rfl) (appendWp_sound hte hd hud (fun k => by simp) hI hx1 hx2 h)
        · cases h
      · rename_i e h1 h2
        have := of_slice h1; subst this
        have := of_str h2; subst this
        split at h
        · rename_i te hte
          exact does_value (s := Builtin.append_ #[t, u] type #[v1, v2]) (by rw [hexec, ht', ha']; rfl) (appendWp_sound hte hd hud (fun k => by simp) hI hx1 hx2 h)
        · cases h
      · cases h
    · cases h
  · rename_i t x hts has
    have ht' : c.argTypes = #[t] := by apply Array.ext'; simpa using hts
    rw [has] at hargs
    simp only [repAll] at hargs
    obtain ⟨u, r, hu, hxu, rfl⟩ := hargs
    have ha' : c.args.map a.eval = #[u] := by apply Array.ext'; simpa using hu
    split at h
    · rename_i ti ht
      split at h
      · rename_i e he
        split at h
        · rename_i te b o n c' hte
          split at h
          · rename_i cs hl
            simp only [rep] at hxu
            subst hxu
            obtain ⟨v, w', M', r, σ', h1, h2, h3, h4⟩ := clear_sound (ty := type) ht he hte hI hl h.1 h.2
            exact does_value (s := Builtin.clear_ #[t] type _) (by rw [hexec, ht', ha']; rfl) ⟨v, w', M', r, σ', h1, h2, h3, h4⟩
          · cases h
        · cases h
      · cases h
    · cases h
  · cases h
set_option maxHeartbeats 4000000 in
theorem opWp_sound {cf : Cfg} {o : Oper} {own : Bool} {ρ : Env} {a : Act} {K : AV → Store → Prop} (hI : Inv gl w M σ) (hF : Fits cf w M ρ a)
    (h : opWp P gl own o.op ρ σ K) : Does P gl o a w M σ K := by
  have E := fun x => ev_rep hI hF x
  obtain ⟨dst, op, type, pos, after, guard⟩ := o
  simp only at h
  unfold opWp at h
  split at h
  · intro next Q hn; exact hn _ _ _ _ _ h (Stp.refl hI) (E _)
  · intro next Q hn; exact hn _ _ _ _ _ h (Stp.refl hI) (E _)
  · -- pick
    rename_i c x y
    split at h
    · rename_i t ht
      have hc := E c
      rw [ht] at hc
      simp only [rep] at hc
      intro next Q hn
      unfold Oper.wp
      have : (execOp a.eval ⟨dst, .pick c x y, type, pos, after, guard⟩).run P w = .ok (.value (if t then a.eval x else a.eval y)) w := by
        simp [execOp, hc, asBool]
      rw [this]
      cases t with
      | true => exact hn _ _ _ _ _ (h.1 rfl) (Stp.refl hI) (E _)
      | false => exact hn _ _ _ _ _ (h.2 rfl) (Stp.refl hI) (E _)
    · cases h
  · -- alloc
    rename_i t
    split at h
    · rename_i ti ht
      obtain ⟨i, d, z, hi, hd, hz, rfl, hzs, hz1⟩ := TI_inv ht
      have hs := new_own (c := z.cells) (e := t) hI (zero_rep (l := z.cells.toList)) hz1
      refine does_value (s := Instr.alloc t true (.tuple #[])) rfl ⟨.pointer (some ⟨w.heap.size, 0, none⟩), _, _, _, _, ?_, h w.heap.size (fresh_of (hI.fresh (Nat.le_refl _))), hs, by simp [rep]⟩
      simp [Instr.alloc, zeroValue, run_info hi, hz, newVar, newRow]
    · cases h
  · -- box
    rename_i t x
    split at h
    · rename_i cs hcs
      obtain ⟨h1, h2⟩ := cellsOf_rep hcs (E x)
      cases own with
      | true =>
        simp only [cond_true] at h
        have hs := new_own (c := (a.eval x).cells) (e := t) hI h1 h2
        refine does_value (s := Instr.box t (a.eval x)) rfl ⟨.pointer (some ⟨w.heap.size, 0, none⟩), _, _, _, _, ?_, h w.heap.size (fresh_of (hI.fresh (Nat.le_refl _))), hs, by simp [rep]⟩
        simp [Instr.box, newVar, newRow]
      | false =>
        simp only [cond_false] at h
        obtain ⟨hs, hc⟩ := new_cells (c := (a.eval x).cells) (e := t) hI h1 h2
        refine does_value (s := Instr.box t (a.eval x)) rfl ⟨.pointer (some ⟨w.heap.size, 0, none⟩), _, _, _, _, ?_, h, hs, by simp only [rep]; exact ⟨_, _, rfl, hc⟩⟩
        simp [Instr.box, newVar, newRow]
    · cases h
  · -- build
    rename_i t parts
    obtain ⟨hp1, hp2⟩ := parts_rep hI hF parts
    split at h
    · rename_i ti ht
      obtain ⟨i, d, z, hi, hd, hz, rfl, hzs, hz1⟩ := TI_inv ht
      simp only at h
      split at h
      · rename_i fs hfs
        split at h
        · rename_i cs hcs
          obtain ⟨hall, hK⟩ := h
          obtain ⟨gs, rfl, rfl⟩ := of_strct hfs
          obtain ⟨pl, hpl, hplf⟩ := places_run hall w
          have hfun : (fun i => pl[i]?) = fieldPl P (gs.toList.map fun f => (f.offset, f.type)) := funext hplf
          obtain ⟨c', hf, _, hr, hone⟩ := layA_sound _ _ _ _ z.cells hcs hp1 hp2 zero_rep hz1
          refine does_pure (s := Instr.build t (parts.map fun (i, x) => (i, a.eval x))) hI rfl ⟨.agg c', _, ?_, hK, by simp only [rep]; exact ⟨c'.toList, by simp, hr, hone⟩⟩
          unfold Instr.build
          rw [Sem.run_bind]
          simp only [zeroValue, Sem.run_bind, run_info hi, Result.andThen_ok, hz, Sem.run_pure, run_und hd, hpl, hfun, hf]
        · cases h
      · rename_i n e hfs
        have := of_arr hfs; subst this
        split at h
        · rename_i te hte
          obtain ⟨ei, ed, ez, hei, hed, _, rfl, _, _⟩ := TI_inv hte
          split at h
          · rename_i cs hcs
            obtain ⟨c', hf, _, hr, hone⟩ := layA_sound _ _ _ _ z.cells hcs hp1 hp2 zero_rep hz1
            refine does_pure (s := Instr.build t (parts.map fun (i, x) => (i, a.eval x))) hI rfl ⟨.agg c', _, ?_, h, by simp only [rep]; exact ⟨c'.toList, by simp, hr, hone⟩⟩
            unfold Instr.build
            rw [Sem.run_bind]
            simp only [zeroValue, Sem.run_bind, run_info hi, Result.andThen_ok, hz, Sem.run_pure, run_und hd, run_size hei, hf]
          · cases h
        · cases h
      · cases h
    · cases h
  · -- buildSlice
    rename_i t n parts
    obtain ⟨hp1, hp2⟩ := parts_rep hI hF parts
    split at h
    · rename_i ti ht
      split at h
      · rename_i e he
        split at h
        · rename_i te hte
          split at h
          · rename_i cs hcs
            exact does_value (s := Instr.buildSlice t n (parts.map fun (i, x) => (i, a.eval x))) rfl (buildSlice_sound ht he hte hI h.1 hcs hp1 hp2 h.2)
          · exact h.2.elim
        · cases h
      · cases h
    · cases h
  · -- load
    rename_i t x
    split at h
    · rename_i ti ht
      obtain ⟨v, r, h1, h2, h3⟩ := loadWp_sound ht hI (E x) h
      exact does_pure (s := Instr.loadAt t (a.eval x)) hI rfl ⟨v, r, h1, h2, h3⟩
    · cases h
  · -- store
    rename_i t x y
    split at h
    · rename_i ti ht
      obtain ⟨w', σ', h1, h2, h3⟩ := storeWp_sound ht hI (E x) (E y) h
      intro next Q hn
      unfold Oper.wp
      have : (execOp a.eval ⟨dst, .store t x y, type, pos, after, guard⟩).run P w = .ok .skip w' := by
        simp [execOp, h1]
      rw [this]
      exact hn _ _ _ _ _ h2 h3 (by simp [rep])
    · cases h
  · -- nilCheck
    rename_i x
    have hx := E x
    intro next Q hn
    unfold Oper.wp
    split at h
    · rename_i ad he
      rw [he] at hx
      have hx' := hx
      simp only [rep] at hx'
      have : (execOp a.eval ⟨dst, .nilCheck x, type, pos, after, guard⟩).run P w = .ok (.value (a.eval x)) w := by
        simp [execOp, hx']
      rw [this]
      exact hn _ _ _ _ _ h (Stp.refl hI) hx
    · rename_i cs he
      rw [he] at hx
      have hx' := hx
      simp only [rep] at hx'
      obtain ⟨b, o, hx', _⟩ := hx'
      have : (execOp a.eval ⟨dst, .nilCheck x, type, pos, after, guard⟩).run P w = .ok (.value (a.eval x)) w := by
        simp [execOp, hx']
      rw [this]
      exact hn _ _ _ _ _ h (Stp.refl hI) hx
    · rename_i f fs cs he
      rw [he] at hx
      have hx' := hx
      simp only [rep] at hx'
      obtain ⟨us, vs, hx', _⟩ := hx'
      have : (execOp a.eval ⟨dst, .nilCheck x, type, pos, after, guard⟩).run P w = .ok (.value (a.eval x)) w := by
        simp [execOp, hx']
      rw [this]
      exact hn _ _ _ _ _ h (Stp.refl hI) hx
    · cases h
  · -- binOp
    rename_i op t x y yt
    split at h
    · rename_i ti ht
      cases hc : isNilC (ev gl ρ y) with
      | true =>
        rw [hc] at h
        simp only [cond_true] at h
        obtain ⟨v, r, h1, h2, h3⟩ := nilWp_sound ht (E x) (E y) h
        obtain ⟨g1, g2⟩ := not_agg_of_nil (E x) h
        exact does_pure (s := do eqGuard op t x y (a.eval x) (a.eval y); binOp op t (a.eval x) (a.eval y)) hI rfl ⟨v, r, by rw [Sem.run_bind, eqGuard_run g1 g2]; exact h1, h2, h3⟩
      | false =>
        rw [hc] at h
        simp only [cond_false] at h
        obtain ⟨v, r, h1, h2, h3⟩ := binWp_sound ht (E x) (E y) h
        obtain ⟨g1, g2⟩ := not_agg_of_bin (E x) h
        exact does_pure (s := do eqGuard op t x y (a.eval x) (a.eval y); binOp op t (a.eval x) (a.eval y)) hI rfl ⟨v, r, by rw [Sem.run_bind, eqGuard_run g1 g2]; exact h1, h2, h3⟩
    · cases h
  · -- unOp
    rename_i op t x
    obtain ⟨v, r, h1, h2, h3⟩ := unWp_sound (P := P) (E x) h
    exact does_pure (s := Op.unary op (a.eval x)) hI rfl ⟨v, r, h1, h2, h3⟩
  · -- convert
    rename_i s d x
    split at h
    · rename_i si di hs hd
      have hx := E x
      split at h
      · rename_i b o n c he
        rw [he] at hx
        simp only [rep] at hx
        obtain ⟨v, r, h1, h2, h3⟩ := convOwn_sound (n := n) (c := c) hs hd hI h
        exact does_pure (s := convert s d (a.eval x)) hI rfl ⟨v, r, by rw [hx]; exact h1, h2, h3⟩
      · obtain ⟨v, r, h1, h2, h3⟩ := convWp_sound hs hd hx h
        exact does_pure (s := convert s d (a.eval x)) hI rfl ⟨v, r, h1, h2, h3⟩
    · cases h
  · -- makeFunc
    rename_i fn first caps
    refine does_pure (s := Instr.makeFunc fn (first.map a.eval) (caps.map a.eval)) hI rfl ⟨_, _, rfl, h, ?_⟩
    simp only [rep]
    exact ⟨first.toList.map a.eval, caps.toList.map a.eval, by rw [← Array.toList_map, ← Array.toList_map], evs_rep hI hF _, evs_rep hI hF _⟩
  · -- makeSlice
    rename_i t l c
    split at h
    · rename_i ti ht
      split at h
      · rename_i e he
        split at h
        · rename_i te n m hte hl hm
          have hl' := E l
          have hm' := E c
          rw [hl] at hl'
          rw [hm] at hm'
          simp only [rep] at hl' hm'
          exact does_value (s := Instr.makeSlice t (a.eval l) (a.eval c)) rfl (by rw [hl', hm']; exact makeSlice_sound ht he hte hI h.1 h.2)
        · cases h
      · cases h
    · cases h
  · -- fieldAddr
    rename_i t x f
    split at h
    · rename_i ti ht
      obtain ⟨v, r, h1, h2, h3⟩ := fieldWp_sound ht (E x) h
      exact does_pure (s := Instr.fieldAt t (a.eval x) f) hI rfl ⟨v, r, h1, h2, h3⟩
    · cases h
  · -- indexAddr
    rename_i t x y
    split at h
    · rename_i ti ht
      obtain ⟨v, r, h1, h2, h3⟩ := indexWp_sound ht (E x) (E y) h
      exact does_pure (s := Instr.indexAt t (a.eval x) (a.eval y)) hI rfl ⟨v, r, h1, h2, h3⟩
    · cases h
  · -- index
    rename_i t x y
    split at h
    · rename_i ti ht
      obtain ⟨v, r, h1, h2, h3⟩ := elemWp_sound ht (E x) (E y) h
      exact does_pure (s := Instr.index t (a.eval x) (a.eval y)) hI rfl ⟨v, r, h1, h2, h3⟩
    · cases h
  · -- slice
    rename_i t x lo hi mx
    split at h
    · rename_i ti ht
      split at h
      · rename_i e he
        split at h
        · rename_i te hte
          have opt : ∀ (o : Option Operand) (y : AV), o.map (ev gl ρ) = some y → ∃ u, o.map a.eval = some u ∧ rep w M y u := fun o y hy => by
            cases o with
            | none => simp at hy
            | some q => simp at hy; subst hy; exact ⟨_, rfl, E q⟩
          have opt0 : ∀ (o : Option Operand), o.map (ev gl ρ) = none → o.map a.eval = none := fun o hy => by
            cases o with
            | none => rfl
            | some q => simp at hy
          obtain ⟨v, r, h1, h2, h3⟩ := sliceWp_sound ht he hte (E x) (opt lo) (opt0 lo) (opt hi) (opt0 hi) (opt mx) (opt0 mx) h
          exact does_pure (s := Instr.sliceAt t (a.eval x) (lo.map a.eval) (hi.map a.eval) (mx.map a.eval)) hI rfl ⟨v, r, h1, h2, h3⟩
        · cases h
      · cases h
    · cases h
  · -- extract
    rename_i x i
    have hx := E x
    split at h
    · rename_i vs he
      rw [he] at hx
      simp only [rep] at hx
      obtain ⟨us, hu, hr⟩ := hx
      split at h
      · rename_i v hv
        obtain ⟨u, hu', hr'⟩ := repAll_get hr i v hv
        refine does_pure (s := Instr.extract (a.eval x) i) hI rfl ⟨u, v, ?_, h, hr'⟩
        rw [hu]
        simp [Instr.extract, hu']
      · cases h
    · cases h
  · -- call
    rename_i c
    split at h
    · rename_i b hb
      exact builtin_does hb hI hF h
    · rename_i f hf
      split at h
      · rename_i g first caps he
        exact call_does hf he hI hF h
      · cases h
    · cases h
  · cases h
end
end Go.AX
end
section
/- Soundness of the code's conditions; loops; a function's contract; steps that turn no memory. -/
namespace Go.AX
open Go

section
variable {P : Program} {gl : Globs}

theorem Fits.keeps {cf : Cfg} {w M w' M'} {ρ : Env} {a : Act} (h : Fits cf w M ρ a) (k : Keeps w M w' M') : Fits cf w' M' ρ a :=
  ⟨fun i => rep.keep k _ _ (h.1 i), h.2⟩
theorem Fits.put {cf : Cfg} {w M} {ρ : Env} {a : Act} {dst : Option Tmp} {x : AV} {v : Value} (h : Fits cf w M ρ a) (hd : dstOk cf dst = true) (hr : rep w M x v) : Fits cf w M (put ρ dst x) (a.put dst v) := by
  cases dst with
  | none => exact h
  | some d =>
    simp only [dstOk, Nat.blt_eq] at hd
    refine ⟨fun i => ?_, h.2.1, by simp [Act.put, h.2.2]⟩
    simp only [AX.put, get, Act.put]
    by_cases hi : i = d
    · subst hi
      simp only [BEq.rfl, cond_true]
      have : (a.tmps.setIfInBounds i v).getD i undef = v := by
        have : i < a.tmps.size := by rw [h.2.2]; exact hd
        simp [Array.getD, this]
      rw [this]; exact hr
    · have h1 : (i == d) = false := by simpa using hi
      simp only [h1, cond_false]
      have : (a.tmps.setIfInBounds d v).getD i undef = a.tmps.getD i undef := by
        simp [Array.getD_eq_getD_getElem?, Array.getElem?_setIfInBounds_ne (fun h : d = i => hi h.symm)]
      rw [this]; exact h.1 i
theorem get_keep (ks : List Nat) (ρ : Env) (i : Nat) : get (keep ks ρ) i = get ρ i ∨ get (keep ks ρ) i = .top := by
  unfold keep
  induction ks with
  | nil => exact .inr rfl
  | cons k r ih =>
    simp only [List.map_cons, get]
    by_cases hi : i = k
    · subst hi; simp
    · have h1 : (i == k) = false := by simpa using hi
      simp only [h1, cond_false]
      exact ih
theorem Fits.keep {cf : Cfg} {w M} {ρ : Env} {a : Act} (h : Fits cf w M ρ a) (ks : List Nat) : Fits cf w M (keep ks ρ) a :=
  ⟨fun i => by
    rcases get_keep ks ρ i with h1 | h1
    · rw [h1]; exact h.1 i
    · rw [h1]; simp [rep], h.2⟩
theorem Fits.bool {cf : Cfg} {w M} {ρ : Env} {a : Act} (h : Fits cf w M ρ a) {t : Nat} {q : Bool} (hg : get ρ t = .bool q) : a.tmps[t]? = some (.bool q) := by
  have h1 := h.1 t
  rw [hg] at h1
  simp only [rep] at h1
  rw [Array.getD_eq_getD_getElem?] at h1
  cases hx : a.tmps[t]? with
  | none => rw [hx] at h1; simp [undef] at h1
  | some v => rw [hx] at h1; simp at h1; rw [h1]
theorem Fits.lit {cf : Cfg} {w M} {ρ : Env} {a : Act} (h : Fits cf w M ρ a) {t : Nat} {q : Bool} (hg : get ρ t = .bool q) : Fits cf w M ((t, .bool q) :: ρ) a :=
  ⟨fun i => by
    simp only [get]
    by_cases hi : i = t
    · subst hi; simp only [BEq.rfl, cond_true]; rw [← hg]; exact h.1 i
    · have h1 : (i == t) = false := by simpa using hi
      simp only [h1, cond_false]; exact h.1 i, h.2⟩

theorem opsWp_sound {cf : Cfg} {ops : Array Oper} {Q : Exit → Act → World → Prop} {K : Env → Store → Prop} {w0 M0 σ0}
    (hQ : ∀ ρ σ w M a, K ρ σ → Stp gl w0 M0 σ0 w M σ → Fits cf w M ρ a → Q .normal a w) :
    ∀ (l : List Oper) (k : Nat) (ρ : Env) (σ : Store) (w : World) (M : Marks) (a : Act), ops.toList.drop k = l → opsWp P gl cf ops.toList l ρ σ K → Stp gl w0 M0 σ0 w M σ → Fits cf w M ρ a →
      wpOps P ops Q (List.range' k l.length) a w
  | [], k, ρ, σ, w, M, a, _, h, hS, hF => by
    simp only [List.length_nil, List.range'_zero, wpOps]
    simp only [opsWp] at h
    exact hQ ρ σ w M a h hS hF
  | o :: r, k, ρ, σ, w, M, a, hl, h, hS, hF => by
    have hk : ops[k]? = some o := by
      have : ops.toList[k]? = some o := by
        have := congrArg (·[0]?) hl
        simpa using this
      simpa using this
    have hr : ops.toList.drop (k + 1) = r := by
      have := congrArg (List.drop 1) hl
      simpa [List.drop_drop] using this
    simp only [List.length_cons, List.range'_succ, wpOps, hk]
    simp only [opsWp] at h
    obtain ⟨hd, h⟩ := h
    have skip : ∀ ρ', Fits cf w M ρ' a → opsWp P gl cf ops.toList r (put ρ' o.dst (.tup [])) σ K → wpOps P ops Q (List.range' (k + 1) r.length) (a.put o.dst undef) w := fun ρ' hF' h' =>
      opsWp_sound hQ r (k + 1) _ _ w M _ hr h' hS (hF'.put hd (by simp [rep, repAll, undef]))
    have exec : ∀ ρ', Fits cf w M ρ' a → opWp P gl (ownAt cf o.dst) o.op ρ' σ (fun v σ => opsWp P gl cf ops.toList r (put ρ' o.dst v) σ K) → o.wp P a w (wpOps P ops Q (List.range' (k + 1) r.length)) Q := fun ρ' hF' h' =>
      opWp_sound hS.inv hF' h' _ _ fun v w' M' x σ' hK hs hv => opsWp_sound hQ r (k + 1) _ _ w' M' _ hr hK (hS.trans hs) ((hF'.keeps hs.ext.keeps).put hd hv)
    cases hg : o.guard with
    | none =>
      rw [hg] at h
      simp only at h
      have hw : Region.wanted o (yielded ops a.tmps) = true := by simp [Region.wanted, hg]
      rw [if_pos hw]
      exact .inl (exec ρ hF h)
    | some gp =>
      obtain ⟨g, p⟩ := gp
      rw [hg] at h
      simp only at h
      split at h
      · rename_i t ht
        split at h
        · rename_i q hq
          have hy : yielded ops a.tmps g = some q := by
            have ht' : (ops[g]?).bind (·.dst) = some t := by simpa using ht
            simp [yielded, ht', hF.bool hq]
          by_cases hqp : q = p
          · subst hqp
            have hw : Region.wanted o (yielded ops a.tmps) = true := by simp [Region.wanted, hg, hy]
            rw [if_pos hw]
            exact .inl (exec _ (hF.lit hq) (h.1 rfl))
          · have hq2 : q = !p := by cases q <;> cases p <;> simp_all
            have hw : ¬ Region.wanted o (yielded ops a.tmps) = true := by simp [Region.wanted, hg, hy, hqp]
            rw [if_neg hw]
            rw [hq2] at hq
            exact skip _ (hF.lit hq) (h.2 hq2)
        · rename_i hq
          have hv := hF.1 t
          rw [hq] at hv
          simp only [rep] at hv
          obtain ⟨vs, hv, hvs⟩ := hv
          simp only [repAll] at hvs
          subst hvs
          have hy : yielded ops a.tmps g = none := by
            have ht' : (ops[g]?).bind (·.dst) = some t := by simpa using ht
            simp only [yielded, ht', Option.bind_some]
            rw [Array.getD_eq_getD_getElem?] at hv
            cases hx : a.tmps[t]? with
            | none => rfl
            | some v => rw [hx] at hv; simp only [Option.getD_some] at hv; rw [hv]
          have hw : ¬ Region.wanted o (yielded ops a.tmps) = true := by simp [Region.wanted, hg, hy]
          rw [if_neg hw]
          exact skip _ hF h
        · cases h
      · cases h

theorem Good.mono {cf : Cfg} {c : Code} {ρ : Env} {σ : Store} {K K' : Exit → Env → Store → Prop} (h : Good P gl cf c ρ σ K) (hk : ∀ e ρ σ, K e ρ σ → K' e ρ σ) : Good P gl cf c ρ σ K' :=
  fun w M a hI hF => wp_mono (h w M a hI hF) fun _ _ _ ⟨ρ', σ', M', h1, h2⟩ => ⟨ρ', σ', M', hk _ _ _ h1, h2⟩

theorem cWp_sound {cf : Cfg} : ∀ (c : Code) (ρ : Env) (σ : Store) (K : Exit → Env → Store → Prop), cWp P gl cf c ρ σ K → Good P gl cf c ρ σ K
  | .skip, ρ, σ, K, h => fun w M a hI hF => wp_skip ⟨ρ, σ, M, h, Stp.refl hI, hF⟩
  | .region id ops false, ρ, σ, K, h => fun w M a hI hF => by
    have := opsWp_sound (P := P) (Q := fun e a' w' => ∃ ρ' σ' M', K e ρ' σ' ∧ Stp gl w M σ w' M' σ' ∧ Fits cf w' M' ρ' a') (w0 := w) (M0 := M) (σ0 := σ)
      (fun ρ' σ' w' M' a' hK hS hF' => ⟨AX.keep cf.ks ρ', σ', M', hK, hS, hF'.keep _⟩) ops.toList 0 ρ σ w M a rfl h (Stp.refl hI) hF
    refine wp_region ?_
    rw [List.range_eq_range']
    simpa using this
  | .region id ops true, ρ, σ, K, h => fun w M a hI hF => wp_mono (h w M a hI hF) fun _ _ _ ⟨ρ', σ', M', h1, h2, h3⟩ => ⟨AX.keep cf.ks ρ', σ', M', h1, h2, h3.keep _⟩
  | .seq x y, ρ, σ, K, h => fun w M a hI hF => by
    have h1 := cWp_sound x ρ σ _ h w M a hI hF
    refine wp_seq (wp_mono h1 fun e a' w' ⟨ρ', σ', M', h2, h3, h4⟩ => ?_)
    cases e with
    | normal =>
      have h5 := cWp_sound y ρ' σ' K h2 w' M' a' h3.inv h4
      exact wp_mono h5 fun e a2 w2 ⟨ρ2, σ2, M2, h6, h7, h8⟩ => ⟨ρ2, σ2, M2, h6, h3.trans h7, h8⟩
    | exit n => exact ⟨ρ', σ', M', h2, h3, h4⟩
    | goto l => exact ⟨ρ', σ', M', h2, h3, h4⟩
    | ret => exact ⟨ρ', σ', M', h2, h3, h4⟩
    | panic ch => exact ⟨ρ', σ', M', h2, h3, h4⟩
    | outgrown => exact ⟨ρ', σ', M', h2, h3, h4⟩
  | .cond c x y, ρ, σ, K, h => fun w M a hI hF => by
    simp only [cWp] at h
    split at h
    · rename_i q hq
      have hc := ev_rep hI hF c
      rw [hq] at hc
      simp only [rep] at hc
      cases q with
      | true => exact wp_cond_true hc (cWp_sound x ρ σ K (h.1 rfl) w M a hI hF)
      | false => exact wp_cond_false hc (cWp_sound y ρ σ K (h.2 rfl) w M a hI hF)
    · cases h
  | .block id c, ρ, σ, K, h => fun w M a hI hF => by
    have h1 := cWp_sound c ρ σ _ h w M a hI hF
    refine wp_block (wp_mono h1 fun e a' w' ⟨ρ', σ', M', h2, h3, h4⟩ => ?_)
    cases e with
    | exit n =>
      simp only at h2
      by_cases hn : n = id
      · subst hn
        simp only [BEq.rfl, cond_true] at h2
        simp only [Exit.inBlock, if_true]
        exact ⟨ρ', σ', M', h2, h3, h4⟩
      · have hb : (n == id) = false := by simpa using hn
        simp only [hb, cond_false] at h2
        simp only [Exit.inBlock, hn, if_false]
        exact ⟨ρ', σ', M', h2, h3, h4⟩
    | normal => exact ⟨ρ', σ', M', h2, h3, h4⟩
    | goto l => exact ⟨ρ', σ', M', h2, h3, h4⟩
    | ret => exact ⟨ρ', σ', M', h2, h3, h4⟩
    | panic ch => exact ⟨ρ', σ', M', h2, h3, h4⟩
    | outgrown => exact ⟨ρ', σ', M', h2, h3, h4⟩
  | .loop c, ρ, σ, K, h => h
  | .exit id, ρ, σ, K, h => fun w M a hI hF => wp_exit ⟨ρ, σ, M, h, Stp.refl hI, hF⟩
  | .ret, ρ, σ, K, h => fun w M a hI hF => wp_ret ⟨ρ, σ, M, h, Stp.refl hI, hF⟩
  | .rangeFunc .., _, _, _, h => h.elim
  | .scope _, _, _, _, h => h.elim
  | .label _, _, _, _, h => h.elim
  | .goto _, _, _, _, h => h.elim
  | .refuse _, _, _, _, h => h.elim

/-- A loop, by a relation that every round hands on with a lower number. -/
theorem LoopWp.intro {cf : Cfg} {c : Code} {ρ : Env} {σ : Store} {K : Exit → Env → Store → Prop} (I : Nat → Env → Store → Prop) (n : Nat) (h0 : I n ρ σ)
    (step : ∀ n ρ σ, I n ρ σ → cWp P gl cf c ρ σ fun e ρ' σ' => match e with | .normal => ∃ m, m < n ∧ I m ρ' σ' | e => K e ρ' σ') : LoopWp P gl cf c ρ σ K := by
  intro w M a hI hF
  refine wp_loop_ghost (fun n a' w' => ∃ ρ' σ' M', I n ρ' σ' ∧ Stp gl w M σ w' M' σ' ∧ Fits cf w' M' ρ' a') n ⟨ρ, σ, M, h0, Stp.refl hI, hF⟩ ?_
  intro n a' w' ⟨ρ', σ', M', h1, h2, h3⟩
  refine wp_mono (cWp_sound c ρ' σ' _ (step n ρ' σ' h1) w' M' a' h2.inv h3) fun e a2 w2 ⟨ρ2, σ2, M2, h4, h5, h6⟩ => ?_
  cases e with
  | normal => obtain ⟨m, hm, hI'⟩ := h4; exact ⟨m, hm, ρ2, σ2, M2, hI', h2.trans h5, h6⟩
  | exit n => exact ⟨ρ2, σ2, M2, h4, h2.trans h5, h6⟩
  | goto l => exact ⟨ρ2, σ2, M2, h4, h2.trans h5, h6⟩
  | ret => exact ⟨ρ2, σ2, M2, h4, h2.trans h5, h6⟩
  | panic ch => exact ⟨ρ2, σ2, M2, h4, h2.trans h5, h6⟩
  | outgrown => exact ⟨ρ2, σ2, M2, h4, h2.trans h5, h6⟩

theorem cWp_mono {cf : Cfg} {c : Code} {ρ : Env} {σ : Store} {K K' : Exit → Env → Store → Prop} (h : Good P gl cf c ρ σ K) (hk : ∀ e ρ σ, K e ρ σ → K' e ρ σ) : Good P gl cf c ρ σ K' := h.mono hk

/-! ### Results, and a function's contract -/
def resSem (tmps : Array Value) : ResultVar → Sem Value
  | .tmp t => pure (tmps.getD t undef)
  | .cell a t => do loadVar t (← asAddr (tmps.getD a undef))
theorem results_eq (fn : Func) (tmps : Array Value) : results fn tmps = (do let vs ← fn.results.mapM (resSem tmps); pure (if h : vs.size = 1 then vs[0] else .tuple vs)) := by
  unfold results
  congr 1
theorem ressOf_sound {w M σ} {a : Act} {cf : Cfg} {ρ : Env} (hI : Inv gl w M σ) (hF : Fits cf w M ρ a) : ∀ (rs : List ResultVar) (K : List AV → Prop), ressOf P ρ σ rs K →
    ∃ vs rv, (rs.mapM (resSem a.tmps)).run P w = .ok rv w ∧ K vs ∧ repAll w M vs rv
  | [], K, h => ⟨[], [], by simp, h, by simp [repAll]⟩
  | r :: rs, K, h => by
    simp only [ressOf] at h
    have key : ∃ x v, (resSem a.tmps r).run P w = .ok v w ∧ rep w M x v ∧ ressOf P ρ σ rs fun vs => K (x :: vs) := by
      cases r with
      | tmp t => exact ⟨get ρ t, a.tmps.getD t undef, rfl, hF.1 t, h⟩
      | cell x t =>
        simp only [resOf] at h
        split at h
        · rename_i ti ht
          obtain ⟨v, y, h1, h2, h3⟩ := loadWp_sound ht hI (hF.1 x) h
          refine ⟨y, v, ?_, h3, h2⟩
          cases hx : a.tmps.getD x undef with
          | pointer ad =>
            cases ad with
            | some ad => rw [hx] at h1; simp only [resSem, hx]; exact h1
            | none => rw [hx] at h1; simp [Instr.loadAt, Instr.sureAddr] at h1
          | _ => rw [hx] at h1; simp [Instr.loadAt, Instr.sureAddr] at h1
        · cases h
    obtain ⟨x, v, h1, h2, h3⟩ := key
    obtain ⟨vs, rv, h4, h5, h6⟩ := ressOf_sound hI hF rs _ h3
    refine ⟨x :: vs, v :: rv, ?_, h5, by simp only [repAll]; exact ⟨v, rv, rfl, h2, h6⟩⟩
    rw [List.mapM_cons, Sem.run_bind, h1]
    simp only [Result.andThen_ok, Sem.run_bind, h4, Sem.run_pure]

theorem retWp_sound {w M σ} {a : Act} {cf : Cfg} {ρ : Env} {fn : Func} {R : AV → Store → Prop} (hI : Inv gl w M σ) (hF : Fits cf w M ρ a)
    (h : ressOf P ρ σ fn.results.toList fun vs => match vs with | [v] => R v σ | vs => R (.tup vs) σ) : ∃ v r, (results fn a.tmps).run P w = .ok v w ∧ R r σ ∧ rep w M r v := by
  obtain ⟨vs, rv, h1, h2, h3⟩ := ressOf_sound hI hF _ _ h
  have hrun : (results fn a.tmps).run P w = .ok (if h : rv.toArray.size = 1 then rv.toArray[0] else .tuple rv.toArray) w := by
    rw [results_eq, Sem.run_bind, Array.mapM_eq_mapM_toList, Sem.run_map, h1]
    rfl
  split at h2
  · rename_i x
    simp only [repAll] at h3
    obtain ⟨v, t, rfl, h4, rfl⟩ := h3
    exact ⟨_, _, hrun, h2, by simpa using h4⟩
  · rename_i hx
    have hl := repAll_length h3
    have hne : ¬ rv.toArray.size = 1 := fun he => by
      have : vs.length = 1 := by rw [hl]; simpa using he
      obtain ⟨x, rfl⟩ := List.length_eq_one_iff.1 this
      exact hx x rfl
    rw [dif_neg hne] at hrun
    exact ⟨_, _, hrun, h2, by simp only [rep]; exact ⟨rv, rfl, h3⟩⟩

theorem get_enterEnv : ∀ (args : List AV) (k i : Nat), get (enterEnv k args) i = if k ≤ i then (args[i - k]?).getD .top else .top
  | [], k, i => by simp [enterEnv, get]
  | x :: r, k, i => by
    simp only [enterEnv, get]
    by_cases hi : i = k
    · subst hi; simp
    · have h1 : (i == k) = false := by simpa using hi
      simp only [h1, cond_false]
      rw [get_enterEnv r (k + 1) i]
      by_cases h2 : k + 1 ≤ i
      · rw [if_pos h2, if_pos (by omega)]
        have : i - k = (i - (k + 1)) + 1 := by omega
        rw [this, List.getElem?_cons_succ]
      · rw [if_neg h2, if_neg (by omega)]

theorem callWp_of {f : FuncId} {fn : Func} {code : Code} {cf : Cfg} {args : List AV} {σ : Store} {R : AV → Store → Prop} (hf : P.funcs[f]? = some fn) (hb : fn.body = some code)
    (hn : (fn.name == "runtime.NumGoroutine") = false) (hnt : fn.ntmps = cf.nt) {rs : List ResultVar} (hrs : fn.results.toList = rs) (hl : args.length ≤ cf.nt) (h : cWp P gl cf code (enterEnv 0 args) σ (retWp P rs R)) : CallWp P gl f args σ R := by
  subst hrs
  refine ⟨⟨fn, hf, hn, by rw [hb]; rfl⟩, fun w M vs hI hr => ?_⟩
  refine calls_of_wp hf hb ?_
  have hvl := repAll_length hr
  have hF : Fits cf w M (enterEnv 0 args) { tmps := vs.toArray ++ Array.replicate (fn.ntmps - vs.toArray.size) undef, defers := [] } := by
    refine ⟨fun i => ?_, rfl, by simp; omega⟩
    rw [get_enterEnv, if_pos (Nat.zero_le _)]
    simp only [Nat.sub_zero]
    cases hi : args[i]? with
    | none => simp [rep]
    | some x =>
      obtain ⟨v, hv, hr'⟩ := repAll_get hr i x hi
      have hlt : i < vs.length := (List.getElem?_eq_some_iff.1 hv).1
      simp only [Option.getD_some]
      rw [Array.getD_eq_getD_getElem?, Array.getElem?_append_left (by simpa using hlt)]
      simpa [hv] using hr'
  refine wp_mono (cWp_sound code _ σ _ h w M _ hI hF) fun e a' w' ⟨ρ', σ', M', h1, h2, h3⟩ => ?_
  cases e with
  | normal =>
    obtain ⟨v, r, h4, h5, h6⟩ := retWp_sound h2.inv h3 h1
    exact ⟨h3.2.1, v, h4, v, M', r, σ', rfl, h5, h2, h6⟩
  | ret =>
    obtain ⟨v, r, h4, h5, h6⟩ := retWp_sound h2.inv h3 h1
    exact ⟨h3.2.1, v, h4, v, M', r, σ', rfl, h5, h2, h6⟩
  | exit n => exact h1.elim
  | goto l => exact h1.elim
  | panic ch => exact h1.elim
  | outgrown => exact h1.elim

/-! ### Calls: weaker posts, a part of the store, what is turned in the books alone -/
theorem CallWp.mono {f : FuncId} {args : List AV} {σ : Store} {K K' : AV → Store → Prop} (h : CallWp P gl f args σ K) (hk : ∀ r σ', K r σ' → K' r σ') : CallWp P gl f args σ K' :=
  ⟨h.1, fun w M vs hI hr => (h.2 w M vs hI hr).mono fun _ _ ⟨v, M', r, σ', h1, h2, h3⟩ => ⟨v, M', r, σ', h1, hk _ _ h2, h3⟩⟩
/-- The callee is given the part σ1 of the store. -/
theorem CallWp.frame {f : FuncId} {args : List AV} {σ1 σ2 : Store} {K : AV → Store → Prop} (h : CallWp P gl f args σ1 fun r σ' => K r (σ' ++ σ2)) : CallWp P gl f args (σ1 ++ σ2) K :=
  ⟨h.1, fun w M vs hI hr => (h.2 w M vs (hI.sub (List.sublist_append_left _ _)) hr).mono fun _ _ ⟨v, M', r, σ', h1, h2, h3, h4⟩ => ⟨v, M', r, σ' ++ σ2, h1, h2, Stp.frame hI h3, h4⟩⟩
/-- A callee that touches nothing of the store. -/
theorem CallWp.pure {f : FuncId} {args : List AV} {σ : Store} {K : AV → Store → Prop} (h : CallWp P gl f args [] fun r _ => K r σ) : CallWp P gl f args σ K := by
  have h1 : CallWp P gl f args ([] ++ σ) K := CallWp.frame ⟨h.1, fun w M vs hI hr => (h.2 w M vs hI hr).mono fun _ _ ⟨v, M', r, σ', a1, a2, a3, a4⟩ => ⟨v, M', r, [], a1, a2, a3.sub (List.nil_sublist _), a4⟩⟩
  exact h1
theorem CallWp.perm {f : FuncId} {args : List AV} {σ τ : Store} {K : AV → Store → Prop} (hp : τ.Perm σ) (h : CallWp P gl f args τ K) : CallWp P gl f args σ K :=
  ⟨h.1, fun w M vs hI hr => (h.2 w M vs (hI.perm hp) hr).mono fun _ _ ⟨v, M', r, σ', h1, h2, h3, h4⟩ => ⟨v, M', r, σ', h1, h2, h3.perm_left hp.symm, h4⟩⟩

/-- A reading that follows from another one, the store being σ. -/
def Sees (gl : Globs) (σ : Store) (a b : AV) : Prop := ∀ w M v, Inv gl w M σ → rep w M a v → rep w M b v
def SeesAll (gl : Globs) (σ : Store) : List AV → List AV → Prop
  | [], [] => True
  | a :: r, b :: s => Sees gl σ a b ∧ SeesAll gl σ r s
  | _, _ => False
theorem SeesAll.rep {σ : Store} : ∀ {as bs : List AV} {w M vs}, SeesAll gl σ as bs → Inv gl w M σ → repAll w M as vs → repAll w M bs vs
  | [], [], _, _, _, _, _, h => h
  | a :: r, b :: s, w, M, vs, hs, hI, h => by
    simp only [repAll] at h ⊢
    obtain ⟨v, t, rfl, h1, h2⟩ := h
    exact ⟨v, t, rfl, hs.1 w M v hI h1, SeesAll.rep hs.2 hI h2⟩
  | [], _ :: _, _, _, _, hs, _, _ => hs.elim
  | _ :: _, [], _, _, _, hs, _, _ => hs.elim
theorem CallWp.args {f : FuncId} {as bs : List AV} {σ : Store} {K : AV → Store → Prop} (hs : SeesAll gl σ as bs) (h : CallWp P gl f bs σ K) : CallWp P gl f as σ K :=
  ⟨h.1, fun w M vs hI hr => h.2 w M vs hI (hs.rep hI hr)⟩
theorem Sees.refl {σ : Store} (a : AV) : Sees gl σ a a := fun _ _ _ _ h => h
theorem Sees.trans {σ : Store} {a b c : AV} (h : Sees gl σ a b) (k : Sees gl σ b c) : Sees gl σ a c := fun w M v hI hr => k w M v hI (h w M v hI hr)
theorem Sees.vec {σ : Store} {b sz xs} : Sees gl σ (.vec b sz xs) (.list sz xs) := fun w M v _ h => by
  simp only [rep] at h ⊢
  obtain ⟨cap, e, n, h1, h2, h3, _⟩ := h
  exact ⟨_, cap, h1, h2, .inr ⟨b, 0, rfl, h3⟩⟩
theorem Sees.nil {σ : Store} {sz} : Sees gl σ .nils (.list sz []) := fun w M v _ h => by
  simp only [rep] at h ⊢
  exact ⟨none, 0, h, by simp⟩
theorem seesAll_rep {σ : Store} {as bs : List AV} (h : SeesAll gl σ as bs) {w M vs} (hI : Inv gl w M σ) (hr : repAll w M as vs) : repAll w M bs vs := h.rep hI hr
theorem Sees.agg {σ : Store} {as bs : List AV} (h : SeesAll gl σ as bs) : Sees gl σ (.agg as) (.agg bs) := fun w M v hI hr => by
  simp only [rep] at hr ⊢
  obtain ⟨vs, h1, h2, h3⟩ := hr
  exact ⟨vs, h1, h.rep hI h2, h3⟩
theorem Sees.tup {σ : Store} {as bs : List AV} (h : SeesAll gl σ as bs) : Sees gl σ (.tup as) (.tup bs) := fun w M v hI hr => by
  simp only [rep] at hr ⊢
  obtain ⟨vs, h1, h2⟩ := hr
  exact ⟨vs, h1, h.rep hI h2⟩

/-- The books are turned, no memory: marks and store. -/
def Gh (gl : Globs) (σ : Store) (r : AV) (σ' : Store) (r' : AV) : Prop := ∀ w M v, Inv gl w M σ → rep w M r v → ∃ M', Stp gl w M σ w M' σ' ∧ rep w M' r' v
theorem CallWp.gh {f : FuncId} {args : List AV} {σ : Store} {K : AV → Store → Prop} (h : CallWp P gl f args σ fun r σ1 => ∃ r' σ', Gh gl σ1 r σ' r' ∧ K r' σ') : CallWp P gl f args σ K :=
  ⟨h.1, fun w M vs hI hr => (h.2 w M vs hI hr).mono fun _ _ ⟨v, M', r, σ1, h1, ⟨r', σ', h2, h3⟩, h4, h5⟩ => by
    obtain ⟨M2, h6, h7⟩ := h2 _ M' v h4.inv h5
    exact ⟨v, M2, r', σ', h1, h3, h4.trans h6, h7⟩⟩
theorem Gh.sees {σ τ : Store} {r r' : AV} (h : Sees gl σ r r') (hs : τ.Sublist σ) : Gh gl σ r τ r' := fun w M v hI hr => ⟨M, (Stp.refl hI).sub hs, h w M v hI hr⟩
end
end Go.AX
end
