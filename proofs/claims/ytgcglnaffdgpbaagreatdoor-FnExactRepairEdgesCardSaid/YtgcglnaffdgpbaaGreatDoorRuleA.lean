/- Rules of proof over abstract values, for any program. -/
import Derived.Calls
import Derived.Laws.World
import Derived.KernelRfl
import Derived.Below
section
/- Abstract values over the model's memory: what a value reads as in a world, and which steps keep that reading. No program stands here. -/
namespace Go.AX
open Go

inductive AV where
  | raw (v : Value)
  | str (l : List UInt8)
  | list (sz : Nat) (xs : List (List AV))
  | vec (b : Nat) (sz : Nat) (xs : List (List AV))
  | cptr (cs : List AV)
  | agg (cs : List AV)
  | tup (vs : List AV)
  | clos (fn : Fn) (first captured : List AV)
  | mt
  | top

abbrev AV.int (n : Int) : AV := .raw (.int .i64 n)
abbrev AV.bool (b : Bool) : AV := .raw (.bool b)
abbrev AV.byte (n : Int) : AV := .raw (.int .u8 n)
abbrev AV.ptr (b o : Nat) : AV := .raw (.pointer (some ⟨b, o, none⟩))
abbrev AV.nils : AV := .raw (.slice none 0 0)
abbrev AV.msl (b o n c : Nat) : AV := .raw (.slice (some ⟨b, o, none⟩) n c)

abbrev Marks := Nat → Nat

mutual
def rep (w : World) (M : Marks) : AV → Value → Prop
  | .raw v, u => u = v
  | .str l, u => u = .string ⟨l.toArray⟩
  | .list sz xs, u => ∃ A cap, u = .slice A xs.length cap ∧ xs.length ≤ cap ∧ (xs = [] ∨ ∃ b o, A = some ⟨b, o, none⟩ ∧ repRows w M b o sz xs)
  | .vec b sz xs, u => ∃ cap e n, u = .slice (some ⟨b, 0, none⟩) xs.length cap ∧ xs.length ≤ cap ∧ repRows w M b 0 sz xs ∧ w.shape? b = some (e, n) ∧ cap * sz ≤ n
  | .cptr cs, u => ∃ b o, u = .pointer (some ⟨b, o, none⟩) ∧ repCells w M b o cs
  | .agg cs, u => ∃ vs : List Value, u = .agg vs.toArray ∧ repAll w M cs vs ∧ ∀ v ∈ vs, v.oneCell' = true
  | .tup cs, u => ∃ vs : List Value, u = .tuple vs.toArray ∧ repAll w M cs vs
  | .clos fn fs cs, u => ∃ us vs : List Value, u = .func fn us.toArray vs.toArray ∧ repAll w M fs us ∧ repAll w M cs vs
  | .mt, u => ∃ A, u = .slice (some A) 0 0
  | .top, _ => True
def repAll (w : World) (M : Marks) : List AV → List Value → Prop
  | [], vs => vs = []
  | a :: r, vs => ∃ v t, vs = v :: t ∧ rep w M a v ∧ repAll w M r t
def repCells (w : World) (M : Marks) (b : Nat) : Nat → List AV → Prop
  | _, [] => True
  | o, a :: r => (o < M b ∧ ∃ v, w.cell? ⟨b, o, none⟩ = some v ∧ v.oneCell' = true ∧ rep w M a v) ∧ repCells w M b (o + 1) r
def repRows (w : World) (M : Marks) (b : Nat) : Nat → Nat → List (List AV) → Prop
  | _, _, [] => True
  | o, sz, e :: r => (e.length = sz ∧ repCells w M b o e) ∧ repRows w M b (o + sz) sz r
end

/-- What stays: the stable cells, the shapes, the streams. -/
structure Keeps (w : World) (M : Marks) (w' : World) (M' : Marks) : Prop where
  cell : ∀ b o, o < M b → w'.cell? ⟨b, o, none⟩ = w.cell? ⟨b, o, none⟩
  mono : ∀ b, M b ≤ M' b
  shape : ∀ b p, w.shape? b = some p → w'.shape? b = some p

theorem Keeps.refl (w : World) (M : Marks) : Keeps w M w M := ⟨fun _ _ _ => rfl, fun _ => Nat.le_refl _, fun _ _ h => h⟩
theorem Keeps.trans {w M w1 M1 w2 M2} (h : Keeps w M w1 M1) (k : Keeps w1 M1 w2 M2) : Keeps w M w2 M2 :=
  ⟨fun b o ho => (k.cell b o (Nat.lt_of_lt_of_le ho (h.mono b))).trans (h.cell b o ho), fun b => Nat.le_trans (h.mono b) (k.mono b), fun b p hp => k.shape b p (h.shape b p hp)⟩

mutual
theorem rep.keep {w M w' M'} (h : Keeps w M w' M') : ∀ (a : AV) (v : Value), rep w M a v → rep w' M' a v
  | .raw _, _, r => r
  | .str _, _, r => r
  | .list sz xs, u, r => by
    simp only [rep] at r ⊢
    obtain ⟨A, cap, h1, h2, h3⟩ := r
    refine ⟨A, cap, h1, h2, ?_⟩
    rcases h3 with h3 | ⟨b, o, hA, h3⟩
    · exact .inl h3
    · exact .inr ⟨b, o, hA, repRows.keep h b o sz xs h3⟩
  | .vec b sz xs, u, r => by
    simp only [rep] at r ⊢
    obtain ⟨cap, e, n, h1, h2, h3, h4, h5⟩ := r
    exact ⟨cap, e, n, h1, h2, repRows.keep h b 0 sz xs h3, h.shape _ _ h4, h5⟩
  | .cptr cs, u, r => by
    simp only [rep] at r ⊢
    obtain ⟨b, o, h1, h2⟩ := r
    exact ⟨b, o, h1, repCells.keep h b o cs h2⟩
  | .agg cs, u, r => by
    simp only [rep] at r ⊢
    obtain ⟨vs, h1, h2, h3⟩ := r
    exact ⟨vs, h1, repAll.keep h cs vs h2, h3⟩
  | .tup cs, u, r => by
    simp only [rep] at r ⊢
    obtain ⟨vs, h1, h2⟩ := r
    exact ⟨vs, h1, repAll.keep h cs vs h2⟩
  | .clos fn fs cs, u, r => by
    simp only [rep] at r ⊢
    obtain ⟨us, vs, h1, h2, h3⟩ := r
    exact ⟨us, vs, h1, repAll.keep h fs us h2, repAll.keep h cs vs h3⟩
  | .mt, _, r => r
  | .top, _, _ => by simp only [rep]
theorem repAll.keep {w M w' M'} (h : Keeps w M w' M') : ∀ (as : List AV) (vs : List Value), repAll w M as vs → repAll w' M' as vs
  | [], _, r => by simpa only [repAll] using r
  | a :: as, vs, r => by
    simp only [repAll] at r ⊢
    obtain ⟨v, t, h1, h2, h3⟩ := r
    exact ⟨v, t, h1, rep.keep h a v h2, repAll.keep h as t h3⟩
theorem repCells.keep {w M w' M'} (h : Keeps w M w' M') (b : Nat) : ∀ (o : Nat) (as : List AV), repCells w M b o as → repCells w' M' b o as
  | _, [], _ => by simp only [repCells]
  | o, a :: as, r => by
    simp only [repCells] at r ⊢
    obtain ⟨⟨h0, v, h1, hc, h2⟩, h3⟩ := r
    exact ⟨⟨Nat.lt_of_lt_of_le h0 (h.mono b), v, (h.cell b o h0).trans h1, hc, rep.keep h a v h2⟩, repCells.keep h b (o + 1) as h3⟩
theorem repRows.keep {w M w' M'} (h : Keeps w M w' M') (b : Nat) : ∀ (o sz : Nat) (xs : List (List AV)), repRows w M b o sz xs → repRows w' M' b o sz xs
  | _, _, [], _ => by simp only [repRows]
  | o, sz, e :: xs, r => by
    simp only [repRows] at r ⊢
    obtain ⟨⟨h0, h1⟩, h2⟩ := r
    exact ⟨⟨h0, repCells.keep h b o e h1⟩, repRows.keep h b (o + sz) sz xs h2⟩
end

/-! ### Reading lists of cells -/
theorem repAll_length {w M} : ∀ {as : List AV} {vs : List Value}, repAll w M as vs → as.length = vs.length
  | [], vs, h => by simp only [repAll] at h; simp [h]
  | a :: as, vs, h => by
    simp only [repAll] at h
    obtain ⟨v, t, rfl, _, h2⟩ := h
    simp [repAll_length h2]
theorem repAll_get {w M} : ∀ {as : List AV} {vs : List Value}, repAll w M as vs → ∀ (i : Nat) a, as[i]? = some a → ∃ v, vs[i]? = some v ∧ rep w M a v
  | [], vs, _, i, a, hi => by simp at hi
  | a :: as, vs, h, i, x, hi => by
    simp only [repAll] at h
    obtain ⟨v, t, rfl, h1, h2⟩ := h
    cases i with
    | zero => simp at hi; subst hi; exact ⟨v, rfl, h1⟩
    | succ i => simp at hi; simpa using repAll_get h2 i x hi
theorem repAll_of_get {w M} : ∀ {as : List AV} {vs : List Value}, as.length = vs.length → (∀ (i : Nat) a v, as[i]? = some a → vs[i]? = some v → rep w M a v) → repAll w M as vs
  | [], vs, hl, _ => by simp only [repAll]; exact List.eq_nil_of_length_eq_zero hl.symm
  | a :: as, [], hl, _ => by simp at hl
  | a :: as, v :: vs, hl, h => by
    simp only [repAll]
    exact ⟨v, vs, rfl, h 0 a v rfl rfl, repAll_of_get (by simpa using hl) fun i x y hx hy => h (i + 1) x y (by simpa using hx) (by simpa using hy)⟩
theorem repAll_append {w M} {as bs : List AV} {vs us : List Value} (h : repAll w M as vs) (k : repAll w M bs us) : repAll w M (as ++ bs) (vs ++ us) := by
  induction as generalizing vs with
  | nil => simp only [repAll] at h; subst h; simpa using k
  | cons a as ih =>
    simp only [repAll] at h
    obtain ⟨v, t, rfl, h1, h2⟩ := h
    simp only [List.cons_append, repAll]
    exact ⟨v, t ++ us, rfl, h1, ih h2⟩
theorem repCells_get {w M b} : ∀ {as : List AV} {o : Nat}, repCells w M b o as → ∀ (i : Nat) a, as[i]? = some a → o + i < M b ∧ ∃ v, w.cell? ⟨b, o + i, none⟩ = some v ∧ v.oneCell' = true ∧ rep w M a v
  | [], _, _, i, a, hi => by simp at hi
  | x :: as, o, h, i, a, hi => by
    simp only [repCells] at h
    obtain ⟨⟨h0, v, h1, hc, h2⟩, h3⟩ := h
    cases i with
    | zero => simp at hi; subst hi; exact ⟨h0, v, h1, hc, h2⟩
    | succ i =>
      simp at hi
      have := repCells_get h3 i a hi
      rwa [show o + 1 + i = o + (i + 1) by omega] at this
theorem repCells_of_get {w M b} : ∀ {as : List AV} {o : Nat}, (∀ (i : Nat) a, as[i]? = some a → o + i < M b ∧ ∃ v, w.cell? ⟨b, o + i, none⟩ = some v ∧ v.oneCell' = true ∧ rep w M a v) → repCells w M b o as
  | [], _, _ => by simp only [repCells]
  | x :: as, o, h => by
    simp only [repCells]
    refine ⟨by simpa using h 0 x rfl, repCells_of_get fun i a hi => ?_⟩
    have := h (i + 1) a (by simpa using hi)
    rwa [show o + (i + 1) = o + 1 + i by omega] at this
theorem repCells_drop {w M b o} {as : List AV} (h : repCells w M b o as) (n : Nat) : repCells w M b (o + n) (as.drop n) :=
  repCells_of_get fun i a hi => by
    have := repCells_get h (n + i) a (by simpa using hi)
    rwa [show o + (n + i) = o + n + i by omega] at this
theorem repCells_take {w M b o} {as : List AV} (h : repCells w M b o as) (n : Nat) : repCells w M b o (as.take n) :=
  repCells_of_get fun i a hi => repCells_get h i a (by
    rw [List.getElem?_take] at hi
    split at hi
    · exact hi
    · cases hi)
theorem repCells_append {w M b o} {as bs : List AV} (h : repCells w M b o as) (k : repCells w M b (o + as.length) bs) : repCells w M b o (as ++ bs) := by
  induction as generalizing o with
  | nil => simpa using k
  | cons a as ih =>
    simp only [List.cons_append, repCells] at h ⊢
    refine ⟨h.1, ih h.2 ?_⟩
    rwa [List.length_cons, show o + (as.length + 1) = o + 1 + as.length by omega] at k
theorem repRows_get {w M b} : ∀ {xs : List (List AV)} {o sz : Nat}, repRows w M b o sz xs → ∀ (i : Nat) e, xs[i]? = some e → e.length = sz ∧ repCells w M b (o + i * sz) e
  | [], _, _, _, i, e, hi => by simp at hi
  | x :: xs, o, sz, h, i, e, hi => by
    simp only [repRows] at h
    obtain ⟨h1, h2⟩ := h
    cases i with
    | zero => simp at hi; subst hi; simpa using h1
    | succ i =>
      simp at hi
      have := repRows_get h2 i e hi
      rwa [show o + sz + i * sz = o + (i + 1) * sz by rw [Nat.add_mul]; omega] at this
theorem repRows_of_get {w M b} : ∀ {xs : List (List AV)} {o sz : Nat}, (∀ (i : Nat) e, xs[i]? = some e → e.length = sz ∧ repCells w M b (o + i * sz) e) → repRows w M b o sz xs
  | [], _, _, _ => by simp only [repRows]
  | x :: xs, o, sz, h => by
    simp only [repRows]
    refine ⟨by simpa using h 0 x rfl, repRows_of_get fun i e hi => ?_⟩
    have := h (i + 1) e (by simpa using hi)
    rwa [show o + (i + 1) * sz = o + sz + i * sz by rw [Nat.add_mul]; omega] at this
theorem repRows_append {w M b o sz} {xs ys : List (List AV)} (h : repRows w M b o sz xs) (k : repRows w M b (o + xs.length * sz) sz ys) : repRows w M b o sz (xs ++ ys) := by
  induction xs generalizing o with
  | nil => simpa using k
  | cons e xs ih =>
    simp only [List.cons_append, repRows] at h ⊢
    refine ⟨h.1, ih h.2 ?_⟩
    rwa [List.length_cons, show o + (xs.length + 1) * sz = o + sz + xs.length * sz by rw [Nat.add_mul]; omega] at k
theorem repRows_drop {w M b o sz} {xs : List (List AV)} (h : repRows w M b o sz xs) (n : Nat) : repRows w M b (o + n * sz) sz (xs.drop n) :=
  repRows_of_get fun i e hi => by
    have := repRows_get h (n + i) e (by simpa using hi)
    rwa [show o + (n + i) * sz = o + n * sz + i * sz by rw [Nat.add_mul]; omega] at this
theorem repRows_take {w M b o sz} {xs : List (List AV)} (h : repRows w M b o sz xs) (n : Nat) : repRows w M b o sz (xs.take n) :=
  repRows_of_get fun i e hi => repRows_get h i e (by
    rw [List.getElem?_take] at hi
    split at hi
    · exact hi
    · cases hi)

/-! ### The store of own blocks -/
inductive AObj where
  | own (cs : List AV)
  | fixd (cs : List AV)
  | tail (n : Nat)
abbrev Store := List (Nat × AObj)
def keys (σ : Store) : List Nat := σ.map Prod.fst
def look : Store → Nat → Option AObj
  | [], _ => none
  | (b, o) :: r, k => bif k == b then some o else look r k
def setAt : Store → Nat → AObj → Store
  | [], _, _ => []
  | (b, o) :: r, k, x => bif k == b then (b, x) :: r else (b, o) :: setAt r k x
def del : Store → Nat → Store
  | [], _ => []
  | (b, o) :: r, k => bif k == b then r else (b, o) :: del r k

def ObjRel (w : World) (M : Marks) (b : Nat) : AObj → Prop
  | .own cs => ∃ c e, w.heap[b]? = some (.cells c e) ∧ M b = 0 ∧ repAll w M cs c.toList ∧ ∀ v ∈ c.toList, v.oneCell' = true
  | .fixd cs => repCells w M b 0 cs ∧ b < w.heap.size
  | .tail n => ∃ c e, w.heap[b]? = some (.cells c e) ∧ M b = n

/-- The tables of the program's own (package-level) variables that are read. -/
abbrev Globs := List (Nat × List AV)

structure Inv (gl : Globs) (w : World) (M : Marks) (σ : Store) : Prop where
  objs : ∀ p ∈ σ, ObjRel w M p.1 p.2
  nodup : (keys σ).Nodup
  wf : ∀ b, M b = 0 ∨ ∃ c e f, w.heap[b]? = some (.cells c e f) ∧ M b ≤ c.size
  glob : ∀ p ∈ gl, repCells w M p.1 0 p.2

structure Ext (w : World) (M : Marks) (ks : List Nat) (w' : World) (M' : Marks) : Prop where
  keeps : Keeps w M w' M'
  os : w'.os = w.os
  tape : w'.tape = w.tape
  output : w'.output = w.output
  size : w.heap.size ≤ w'.heap.size
  frame : ∀ b, b < w.heap.size → b ∉ ks → w'.heap[b]? = w.heap[b]? ∧ M' b = M b

structure Stp (gl : Globs) (w : World) (M : Marks) (σ : Store) (w' : World) (M' : Marks) (σ' : Store) : Prop where
  ext : Ext w M (keys σ) w' M'
  inv : Inv gl w' M' σ'
  keys : ∀ b ∈ keys σ', b ∈ keys σ ∨ w.heap.size ≤ b

theorem Ext.refl (w : World) (M : Marks) (ks : List Nat) : Ext w M ks w M := ⟨.refl _ _, rfl, rfl, rfl, Nat.le_refl _, fun _ _ _ => ⟨rfl, rfl⟩⟩
theorem Stp.refl {gl w M σ} (h : Inv gl w M σ) : Stp gl w M σ w M σ := ⟨.refl _ _ _, h, fun _ hb => .inl hb⟩
theorem Stp.trans {gl w M σ w1 M1 σ1 w2 M2 σ2} (h : Stp gl w M σ w1 M1 σ1) (k : Stp gl w1 M1 σ1 w2 M2 σ2) : Stp gl w M σ w2 M2 σ2 where
  ext := {
    keeps := h.ext.keeps.trans k.ext.keeps
    os := k.ext.os.trans h.ext.os
    tape := k.ext.tape.trans h.ext.tape
    output := k.ext.output.trans h.ext.output
    size := Nat.le_trans h.ext.size k.ext.size
    frame := fun b hb hn => by
      have h1 := h.ext.frame b hb hn
      have h2 := k.ext.frame b (Nat.lt_of_lt_of_le hb h.ext.size) fun hk => by
        rcases h.keys b hk with h3 | h3
        · exact hn h3
        · omega
      exact ⟨h2.1.trans h1.1, h2.2.trans h1.2⟩ }
  inv := k.inv
  keys := fun b hb => by
    rcases k.keys b hb with h1 | h1
    · exact h.keys b h1
    · exact .inr (Nat.le_trans h.ext.size h1)

theorem frozen?_of_heap {w w' : World} {b o : Nat} (h : w'.heap[b]? = w.heap[b]?) : w'.frozen? ⟨b, o, none⟩ = w.frozen? ⟨b, o, none⟩ := by simp [World.frozen?, h]
theorem cell?_of_heap {w w' : World} {b o : Nat} (h : w'.heap[b]? = w.heap[b]?) : w'.cell? ⟨b, o, none⟩ = w.cell? ⟨b, o, none⟩ := by simp [World.cell?, h]

theorem ObjRel.lt {w M b o} (h : ObjRel w M b o) : b < w.heap.size := by
  cases o with
  | own cs => obtain ⟨c, e, hb, _⟩ := h; exact (Array.getElem?_eq_some_iff.1 hb).1
  | fixd cs => exact h.2
  | tail n => obtain ⟨c, e, hb, _⟩ := h; exact (Array.getElem?_eq_some_iff.1 hb).1
theorem ObjRel.keep {w M w' M' b o} (h : ObjRel w M b o) (k : Keeps w M w' M') (hh : w'.heap[b]? = w.heap[b]?) (hM : M' b = M b) : ObjRel w' M' b o := by
  have hlt := h.lt
  cases o with
  | own cs =>
    obtain ⟨c, e, h1, h2, h3, h4⟩ := h
    exact ⟨c, e, hh.trans h1, hM.trans h2, repAll.keep k _ _ h3, h4⟩
  | fixd cs =>
    have : b < w'.heap.size := by
      rcases Nat.lt_or_ge b w'.heap.size with h' | h'
      · exact h'
      · simp [Array.getElem?_eq_none h', Array.getElem?_eq_getElem hlt] at hh
    exact ⟨repCells.keep k _ _ _ h.1, this⟩
  | tail n =>
    obtain ⟨c, e, h1, h2⟩ := h
    exact ⟨c, e, hh.trans h1, hM.trans h2⟩

theorem Inv.lt {gl w M σ} (h : Inv gl w M σ) {b : Nat} (hb : b ∈ keys σ) : b < w.heap.size := by
  simp only [keys, List.mem_map] at hb
  obtain ⟨p, hp, rfl⟩ := hb
  exact (h.objs p hp).lt

/-- The frame: what a step over a part of the store does, it does over the whole. -/
theorem Stp.frame {gl w M σ1 σ2 w' M' σ1'} (h : Inv gl w M (σ1 ++ σ2)) (s : Stp gl w M σ1 w' M' σ1') : Stp gl w M (σ1 ++ σ2) w' M' (σ1' ++ σ2) where
  ext := { s.ext with frame := fun b hb hn => s.ext.frame b hb fun hk => hn (by simp only [AX.keys, List.map_append, List.mem_append] at *; exact .inl hk) }
  inv := {
    objs := fun p hp => by
      rcases List.mem_append.1 hp with h1 | h1
      · exact s.inv.objs p h1
      · have hr := h.objs p (List.mem_append.2 (.inr h1))
        have hn : p.1 ∉ AX.keys σ1 := fun hk => by
          have := h.nodup
          simp only [AX.keys, List.map_append] at this hk
          exact (List.nodup_append.1 this).2.2 _ hk _ (List.mem_map.2 ⟨p, h1, rfl⟩) rfl
        have hf := s.ext.frame p.1 hr.lt hn
        exact hr.keep s.ext.keeps hf.1 hf.2
    nodup := by
      have := h.nodup
      simp only [AX.keys, List.map_append] at this ⊢
      obtain ⟨h1, h2, h3⟩ := List.nodup_append.1 this
      refine List.nodup_append.2 ⟨s.inv.nodup, h2, fun a ha b hb he => ?_⟩
      rcases s.keys a ha with h4 | h4
      · exact h3 a h4 b hb he
      · have : b < w.heap.size := h.lt (by simp only [AX.keys, List.map_append]; exact List.mem_append.2 (.inr hb))
        omega
    wf := s.inv.wf
    glob := s.inv.glob }
  keys := fun b hb => by
    simp only [AX.keys, List.map_append, List.mem_append] at hb ⊢
    rcases hb with h1 | h1
    · rcases s.keys b h1 with h2 | h2
      · exact .inl (.inl h2)
      · exact .inr h2
    · exact .inl (.inr h1)

/-- Leaving entries of the store out. -/
theorem Inv.sub {gl w M σ τ} (h : Inv gl w M σ) (hs : τ.Sublist σ) : Inv gl w M τ :=
  ⟨fun p hp => h.objs p (hs.subset hp), h.nodup.sublist (hs.map _), h.wf, h.glob⟩
theorem Inv.perm {gl w M σ τ} (h : Inv gl w M σ) (hs : τ.Perm σ) : Inv gl w M τ :=
  ⟨fun p hp => h.objs p (hs.subset hp), (hs.map Prod.fst).nodup_iff.2 h.nodup, h.wf, h.glob⟩
theorem Stp.sub {gl w M σ w' M' σ' τ} (s : Stp gl w M σ w' M' σ') (hs : τ.Sublist σ') : Stp gl w M σ w' M' τ :=
  ⟨s.ext, s.inv.sub hs, fun b hb => s.keys b ((hs.map Prod.fst).subset hb)⟩
theorem Stp.perm {gl w M σ w' M' σ' τ} (s : Stp gl w M σ w' M' σ') (hs : τ.Perm σ') : Stp gl w M σ w' M' τ :=
  ⟨s.ext, s.inv.perm hs, fun b hb => s.keys b ((hs.map Prod.fst).subset hb)⟩
theorem Stp.perm_left {gl w M σ w' M' σ' τ} (s : Stp gl w M σ w' M' σ') (hs : τ.Perm σ) : Stp gl w M τ w' M' σ' :=
  ⟨{ s.ext with frame := fun b hb hn => s.ext.frame b hb fun hk => hn ((hs.map Prod.fst).symm.subset hk) }, s.inv, fun b hb => (s.keys b hb).imp (fun h => (hs.map Prod.fst).symm.subset h) id⟩

/-! ### New blocks; stores into own blocks -/
def updM (M : Marks) (b n : Nat) : Marks := fun k => if k = b then n else M k
theorem updM_le {M : Marks} {b n k : Nat} (h : k = b → M b ≤ n) : M k ≤ updM M b n k := by
  unfold updM; split
  · rename_i he; subst he; exact h rfl
  · exact Nat.le_refl _
def setBlk (w : World) (b : Nat) (o : Obj) : World := { w with heap := w.heap.setIfInBounds b o }

theorem Inv.mark_new {gl w M σ} (h : Inv gl w M σ) : M w.heap.size = 0 := by
  rcases h.wf w.heap.size with h1 | ⟨c, e, f, h1, _⟩
  · exact h1
  · simp at h1
theorem Inv.stable_lt {gl w M σ} (h : Inv gl w M σ) {b o : Nat} (ho : o < M b) : b < w.heap.size := by
  rcases h.wf b with h1 | ⟨c, e, f, h1, _⟩
  · omega
  · exact (Array.getElem?_eq_some_iff.1 h1).1

theorem heap_alloc_old (w : World) (o : Obj) {b : Nat} (hb : b < w.heap.size) : (w.alloc o).heap[b]? = w.heap[b]? := by
  show (w.heap.push o)[b]? = _
  rw [Array.getElem?_push, if_neg (by omega)]
theorem heap_alloc_new (w : World) (o : Obj) : (w.alloc o).heap[w.heap.size]? = some o := by
  show (w.heap.push o)[w.heap.size]? = _
  simp
theorem shape?_of_heap {w w' : World} {b : Nat} (h : w'.heap[b]? = w.heap[b]?) : w'.shape? b = w.shape? b := by simp [World.shape?, h]
theorem shape?_lt {w : World} {b : Nat} {p} (h : w.shape? b = some p) : b < w.heap.size := by
  rcases Nat.lt_or_ge b w.heap.size with h' | h'
  · exact h'
  · simp [World.shape?, Array.getElem?_eq_none h'] at h

theorem Keeps.new {gl w M σ} (h : Inv gl w M σ) (o : Obj) (n : Nat) : Keeps w M (w.alloc o) (updM M w.heap.size n) where
  cell := fun b o' ho => cell?_of_heap (heap_alloc_old w o (h.stable_lt ho))
  mono := fun b => by
    unfold updM; split
    · rename_i hb; subst hb; rw [h.mark_new]; exact Nat.zero_le _
    · exact Nat.le_refl _
  shape := fun b p hp => by rw [shape?_of_heap (heap_alloc_old w o (shape?_lt hp))]; exact hp

/-- A new block of cells, the first n of them stable. -/
theorem Stp.new {gl w M σ} (h : Inv gl w M σ) (c : Array Value) (e : TypeId) (n : Nat) (hn : n ≤ c.size) :
    Stp gl w M σ (w.alloc (.cells c e)) (updM M w.heap.size n) σ := by
  have hk := Keeps.new h (.cells c e) n
  refine ⟨⟨hk, rfl, rfl, rfl, by simp, fun b hb _ => ⟨heap_alloc_old w _ hb, ?_⟩⟩, ⟨fun p hp => ?_, h.nodup, fun b => ?_, fun p hp => repCells.keep hk _ _ _ (h.glob p hp)⟩, fun b hb => .inl hb⟩
  · unfold updM; rw [if_neg (by omega)]
  · have hr := h.objs p hp
    exact hr.keep hk (heap_alloc_old w _ hr.lt) (by unfold updM; rw [if_neg (Nat.ne_of_lt hr.lt)])
  · unfold updM
    split
    · rename_i hb; subst hb; exact .inr ⟨c, e, (0, 0), heap_alloc_new w _, hn⟩
    · rename_i hb
      rcases h.wf b with h1 | ⟨c', e', f', h1, h2⟩
      · exact .inl h1
      · exact .inr ⟨c', e', f', by rw [heap_alloc_old w _ (Array.getElem?_eq_some_iff.1 h1).1]; exact h1, h2⟩

theorem Stp.cons {gl w M σ w' M' σ' b o} (s : Stp gl w M σ w' M' σ') (ho : ObjRel w' M' b o) (hb : b ∉ AX.keys σ') (hn : w.heap.size ≤ b) : Stp gl w M σ w' M' ((b, o) :: σ') where
  ext := s.ext
  inv := ⟨fun p hp => by
      rcases List.mem_cons.1 hp with rfl | h1
      · exact ho
      · exact s.inv.objs p h1, by simpa [AX.keys] using ⟨by simpa [AX.keys] using hb, s.inv.nodup⟩, s.inv.wf, s.inv.glob⟩
  keys := fun k hk => by
    rcases List.mem_cons.1 hk with rfl | h1
    · exact .inr hn
    · exact s.keys k h1

theorem Inv.fresh {gl w M σ} (h : Inv gl w M σ) {b : Nat} (hb : w.heap.size ≤ b) : b ∉ AX.keys σ := fun hk => by have := h.lt hk; omega

/-- Draws turn nothing. -/
theorem Keeps.drew (w : World) (M : Marks) : Keeps w M w.drew M := ⟨fun _ _ _ => rfl, fun _ => Nat.le_refl _, fun _ _ h => h⟩
theorem Stp.drew {gl w M σ} (h : Inv gl w M σ) : Stp gl w M σ w.drew M σ :=
  ⟨⟨.drew w M, rfl, rfl, rfl, Nat.le_refl _, fun _ _ _ => ⟨rfl, rfl⟩⟩,
    ⟨fun p hp => (h.objs p hp).keep (.drew w M) rfl rfl, h.nodup, h.wf, fun p hp => repCells.keep (.drew w M) _ _ _ (h.glob p hp)⟩, fun _ hb => .inl hb⟩

theorem look_mem {σ : Store} {b : Nat} {o : AObj} (h : look σ b = some o) : (b, o) ∈ σ := by
  induction σ with
  | nil => simp [look] at h
  | cons p r ih =>
    obtain ⟨c, x⟩ := p
    simp only [look] at h
    by_cases hb : b = c
    · subst hb; simp at h; simp [h]
    · have : (b == c) = false := by simpa using hb
      simp only [this, cond_false] at h
      exact List.mem_cons_of_mem _ (ih h)
theorem keys_setAt (σ : Store) (b : Nat) (o : AObj) : keys (setAt σ b o) = keys σ := by
  induction σ with
  | nil => rfl
  | cons p r ih =>
    obtain ⟨c, x⟩ := p
    simp only [setAt]
    by_cases hb : b = c
    · subst hb; simp [keys]
    · have : (b == c) = false := by simpa using hb
      simp only [this, cond_false, keys, List.map_cons] at ih ⊢
      rw [ih]
theorem mem_setAt {σ : Store} {b : Nat} {o : AObj} {p : Nat × AObj} (hn : (keys σ).Nodup) (h : p ∈ setAt σ b o) : p = (b, o) ∨ (p ∈ σ ∧ p.1 ≠ b) := by
  induction σ with
  | nil => simp [setAt] at h
  | cons q r ih =>
    obtain ⟨c, x⟩ := q
    simp only [setAt] at h
    have hn' : c ∉ keys r ∧ (keys r).Nodup := by simpa [keys] using hn
    by_cases hb : b = c
    · subst hb
      simp at h
      rcases h with rfl | h
      · exact .inl rfl
      · refine .inr ⟨List.mem_cons_of_mem _ h, fun he => hn'.1 ?_⟩
        rw [← he]; exact List.mem_map.2 ⟨p, h, rfl⟩
    · have : (b == c) = false := by simpa using hb
      simp only [this, cond_false, List.mem_cons] at h
      rcases h with rfl | h
      · exact .inr ⟨by simp, fun he => hb he.symm⟩
      · rcases ih hn'.2 h with h1 | ⟨h1, h2⟩
        · exact .inl h1
        · exact .inr ⟨List.mem_cons_of_mem _ h1, h2⟩
theorem del_sublist (σ : Store) (b : Nat) : (del σ b).Sublist σ := by
  induction σ with
  | nil => exact .slnil
  | cons q r ih =>
    obtain ⟨c, x⟩ := q
    simp only [del]
    by_cases hb : b = c
    · subst hb; simp
    · have : (b == c) = false := by simpa using hb
      simp only [this, cond_false]
      exact ih.cons_cons _
theorem not_mem_del {σ : Store} {b : Nat} (hn : (keys σ).Nodup) : b ∉ keys (del σ b) := by
  induction σ with
  | nil => simp [del, keys]
  | cons q r ih =>
    obtain ⟨c, x⟩ := q
    have hn' : c ∉ keys r ∧ (keys r).Nodup := by simpa [keys] using hn
    simp only [del]
    by_cases hb : b = c
    · subst hb; simpa using hn'.1
    · have : (b == c) = false := by simpa using hb
      simp only [this, cond_false]
      have := ih hn'.2
      simp only [keys, List.map_cons, List.mem_cons, not_or] at this ⊢
      exact ⟨hb, this⟩
theorem keys_del_sub {σ : Store} {b k : Nat} (h : k ∈ keys (del σ b)) : k ∈ keys σ := ((del_sublist σ b).map Prod.fst).subset h

theorem heap_setBlk_same {w : World} {b : Nat} (o : Obj) (hb : b < w.heap.size) : (setBlk w b o).heap[b]? = some o := by simp [setBlk, hb]
theorem heap_setBlk_other {w : World} {b k : Nat} (o : Obj) (hk : k ≠ b) : (setBlk w b o).heap[k]? = w.heap[k]? := by
  simp only [setBlk]; rw [Array.getElem?_setIfInBounds_ne (by omega)]
theorem shape?_setBlk {w : World} {b : Nat} {c c' : Array Value} {e f f'} (hb : w.heap[b]? = some (.cells c e f)) (hs : c'.size = c.size) (k : Nat) :
    (setBlk w b (.cells c' e f')).shape? k = w.shape? k := by
  by_cases hk : k = b
  · subst hk
    simp only [World.shape?, heap_setBlk_same _ (Array.getElem?_eq_some_iff.1 hb).1, hb, hs]
  · exact shape?_of_heap (heap_setBlk_other _ hk)

/-- A store into an own block. -/
theorem Stp.set {gl w M σ b cs} (h : Inv gl w M σ) (hl : look σ b = some (.own cs)) {c c' : Array Value} {e : TypeId} {cs' : List AV}
    (hb : w.heap[b]? = some (.cells c e)) (hs : c'.size = c.size) (hr : repAll w M cs' c'.toList) (h1 : ∀ v ∈ c'.toList, v.oneCell' = true) :
    Stp gl w M σ (setBlk w b (.cells c' e)) M (setAt σ b (.own cs')) := by
  have hlt := (Array.getElem?_eq_some_iff.1 hb).1
  have hM : M b = 0 := by obtain ⟨_, _, _, h2, _⟩ := h.objs _ (look_mem hl); exact h2
  have hk : Keeps w M (setBlk w b (.cells c' e)) M := ⟨fun k o ho => by
      have : k ≠ b := fun he => by subst he; omega
      exact cell?_of_heap (heap_setBlk_other _ this), fun _ => Nat.le_refl _, fun k p hp => by rw [shape?_setBlk hb hs]; exact hp⟩
  have hmem : b ∈ AX.keys σ := List.mem_map.2 ⟨_, look_mem hl, rfl⟩
  refine ⟨⟨hk, rfl, rfl, rfl, by simp [setBlk], fun k hk' hn => ⟨heap_setBlk_other _ (fun he => hn (he ▸ hmem)), rfl⟩⟩, ⟨fun p hp => ?_, by rw [keys_setAt]; exact h.nodup, fun k => ?_, fun p hp => repCells.keep hk _ _ _ (h.glob p hp)⟩, fun k hk' => .inl (by rw [keys_setAt] at hk'; exact hk')⟩
  · rcases mem_setAt h.nodup hp with rfl | ⟨h2, h3⟩
    · exact ⟨c', e, heap_setBlk_same _ hlt, hM, repAll.keep hk _ _ hr, h1⟩
    · exact (h.objs p h2).keep hk (heap_setBlk_other _ h3) rfl
  · by_cases hkb : k = b
    · subst hkb; exact .inl hM
    · rcases h.wf k with h2 | ⟨c2, e2, f2, h2, h3⟩
      · exact .inl h2
      · exact .inr ⟨c2, e2, f2, by rw [heap_setBlk_other _ hkb]; exact h2, h3⟩

/-- An append in place: the stable part of the block grows. -/
theorem Stp.grow {gl w M σ b n} (h : Inv gl w M σ) (hl : look σ b = some (.tail n)) {c c' : Array Value} {e : TypeId} {m : Nat}
    (hb : w.heap[b]? = some (.cells c e)) (hs : c'.size = c.size) (hm : n ≤ m) (hmc : m ≤ c'.size) (hsame : ∀ o, o < n → c'[o]? = c[o]?) :
    Stp gl w M σ (setBlk w b (.cells c' e)) (updM M b m) ((b, .tail m) :: del σ b) := by
  have hlt := (Array.getElem?_eq_some_iff.1 hb).1
  have hM : M b = n := by obtain ⟨_, _, _, h2⟩ := h.objs _ (look_mem hl); exact h2
  have hk : Keeps w M (setBlk w b (.cells c' e)) (updM M b m) := ⟨fun k o ho => by
      by_cases he : k = b
      · subst he
        simp only [World.cell?, heap_setBlk_same _ hlt, hb]
        simpa using hsame o (by omega)
      · exact cell?_of_heap (heap_setBlk_other _ he), fun k => updM_le (fun he => by omega), fun k p hp => by rw [shape?_setBlk hb hs]; exact hp⟩
  have hmem : b ∈ AX.keys σ := List.mem_map.2 ⟨_, look_mem hl, rfl⟩
  have hother : ∀ p ∈ del σ b, p.1 ≠ b := fun p hp he => not_mem_del h.nodup (he ▸ List.mem_map.2 ⟨p, hp, rfl⟩)
  refine ⟨⟨hk, rfl, rfl, rfl, by simp [setBlk], fun k hk' hn => ⟨heap_setBlk_other _ (fun he => hn (he ▸ hmem)), ?_⟩⟩, ⟨fun p hp => ?_, ?_, fun k => ?_, fun p hp => repCells.keep hk _ _ _ (h.glob p hp)⟩, fun k hk' => .inl ?_⟩
  · unfold updM; rw [if_neg (fun he : k = b => hn (he ▸ hmem))]
  · rcases List.mem_cons.1 hp with rfl | hp
    · exact ⟨c', e, heap_setBlk_same _ hlt, by simp [updM]⟩
    · have h3 := hother p hp
      exact (h.objs p ((del_sublist σ b).subset hp)).keep hk (heap_setBlk_other _ h3) (by unfold updM; rw [if_neg h3])
  · simpa [AX.keys] using ⟨by simpa [AX.keys] using not_mem_del h.nodup, h.nodup.sublist ((del_sublist σ b).map _)⟩
  · unfold updM
    split
    · rename_i he; subst he; exact .inr ⟨c', e, (0, 0), heap_setBlk_same _ hlt, hmc⟩
    · rename_i he
      rcases h.wf k with h2 | ⟨c2, e2, f2, h2, h3⟩
      · exact .inl h2
      · exact .inr ⟨c2, e2, f2, by rw [heap_setBlk_other _ he]; exact h2, h3⟩
  · rcases List.mem_cons.1 hk' with rfl | h2
    · exact hmem
    · exact keys_del_sub h2

/-- What was an own block is read only from now on. -/
theorem Stp.fix {gl w M σ b cs} (h : Inv gl w M σ) (hl : look σ b = some (.own cs)) : ∃ M', Stp gl w M σ w M' (setAt σ b (.fixd cs)) := by
  obtain ⟨c, e, hb, hM, hr, h1⟩ := h.objs _ (look_mem hl)
  have hlt := (Array.getElem?_eq_some_iff.1 hb).1
  have hmem : b ∈ AX.keys σ := List.mem_map.2 ⟨_, look_mem hl, rfl⟩
  have hk : Keeps w M w (updM M b c.size) := ⟨fun _ _ _ => rfl, fun k => updM_le (fun he => by simp only at hM; omega), fun _ _ h => h⟩
  refine ⟨updM M b c.size, ⟨hk, rfl, rfl, rfl, Nat.le_refl _, fun k _ hn => ⟨rfl, by unfold updM; rw [if_neg (fun he : k = b => hn (he ▸ hmem))]⟩⟩, ⟨fun p hp => ?_, by rw [keys_setAt]; exact h.nodup, fun k => ?_, fun p hp => repCells.keep hk _ _ _ (h.glob p hp)⟩, fun k hk' => .inl (by rw [keys_setAt] at hk'; exact hk')⟩
  · rcases mem_setAt h.nodup hp with rfl | ⟨h2, h3⟩
    · refine ⟨repCells_of_get fun i a hi => ?_, hlt⟩
      obtain ⟨v, hv, hv'⟩ := repAll_get hr i a hi
      have hv2 : c[i]? = some v := by simpa using hv
      have hic : i < c.size := (Array.getElem?_eq_some_iff.1 hv2).1
      refine ⟨by simp [updM]; omega, v, ?_, h1 v (List.mem_of_getElem? hv), rep.keep hk _ _ hv'⟩
      simp only at hb
      simp [World.cell?, hb, hv2]
    · exact (h.objs p h2).keep hk rfl (by unfold updM; rw [if_neg h3])
  · unfold updM
    split
    · rename_i he; subst he; exact .inr ⟨c, e, (0, 0), hb, Nat.le_refl _⟩
    · exact h.wf k
end Go.AX
end
section
/- What is to be shown of a piece of code over abstract values: by recursion on the code; a soundness theorem stands in the next texts. -/
namespace Go.AX
open Go

/-- A type, as far as the code's operations ask. -/
inductive Ty where
  | int (k : IntKind) | bool | str
  | slice (e : TypeId) | arr (n : Nat) (e : TypeId) | ptr (e : TypeId)
  | strct (fs : List (Nat × TypeId))
  | map (k e : TypeId) | func | iface | tuple (n : Nat) | other
def Ty.of : TypeDesc → Ty
  | .int k => .int k | .bool => .bool | .string => .str
  | .slice e => .slice e | .array n e => .arr n e | .pointer e => .ptr e
  | .struct fs => .strct (fs.toList.map fun f => (f.offset, f.type))
  | .map k e => .map k e | .func .. => .func | .interface _ => .iface | .tuple ts => .tuple ts.size | _ => .other
def Ty.agg : Ty → Bool
  | .strct _ => true | .arr .. => true | _ => false
structure TyI where
  ty : Ty
  sz : Nat
  by_ : Nat
  zero : List Value
def TI (P : Program) (t : TypeId) : Option TyI :=
  match P.info? t, P.underlying t with
  | some i, some d => match i.zero with
    | some z => bif z.cells.size == i.size && z.cells.all (·.oneCell') then some ⟨.of d, i.size, i.bytes, z.cells.toList⟩ else none
    | none => none
  | _, _ => none

abbrev Env := List (Nat × AV)
def get : Env → Nat → AV
  | [], _ => .top
  | (j, v) :: r, i => bif i == j then v else get r i
def keep (ks : List Nat) (ρ : Env) : Env := ks.map fun k => (k, get ρ k)
def lookG : Globs → Nat → AV
  | [], _ => .top
  | (g, cs) :: r, k => bif k == g then .cptr cs else lookG r k

def ofCell : Value → AV
  | .string s => .str s.data.toList
  | v => .raw v
def ofVal : Value → AV
  | .string s => .str s.data.toList
  | .agg cs => bif cs.toList.all (·.oneCell') then .agg (cs.toList.map ofCell) else .top
  | .tuple _ => .top
  | v => .raw v
def ev (gl : Globs) (ρ : Env) : Operand → AV
  | .tmp t => get ρ t
  | .const v => ofVal v
  | .global g => lookG gl g
  | .func f => .clos (.func f) [] []

/-- The cells of a value that can be stored. -/
def cellsOf : AV → Option (List AV)
  | .agg cs => some cs
  | .raw v => bif v.oneCell' then some [.raw v] else none
  | .top => none
  | .tup _ => none
  | a => some [a]
def mkV (agg : Bool) (cs : List AV) : AV := bif agg then .agg cs else cs.headD .top
def I64 (z : Int) : Prop := -9223372036854775808 ≤ z ∧ z ≤ 9223372036854775807
def fresh (b : Nat) : Store → Prop
  | [] => True
  | (c, _) :: r => (b ≠ c ∧ c ≠ b) ∧ fresh b r
def splice (cs : List AV) (o : Nat) (new : List AV) : List AV := cs.take o ++ new ++ cs.drop (o + new.length)

/-- Of two ways the one that a truth value points to. -/
def cnd (q : Bool) (A B : Prop) : Prop := (q = true → A) ∧ (q = false → B)
def grd (p q : Bool) (E S : Prop) : Prop := (q = p → E) ∧ (q = (!p) → S)

structure Cfg where
  nt : Nat
  ks : List Nat
  own : List Nat
  cp : List Nat

/-- A call: from every state that fits, the machine's call comes back with a value that reads as some r of which K holds. -/
def Enters (P : Program) (f : FuncId) : Prop := ∃ fn, P.funcs[f]? = some fn ∧ (fn.name == "runtime.NumGoroutine") = false ∧ fn.body.isNone = false
def CallWp (P : Program) (gl : Globs) (f : FuncId) (args : List AV) (σ : Store) (K : AV → Store → Prop) : Prop :=
  Enters P f ∧ ∀ w M vs, Inv gl w M σ → repAll w M args vs → Calls P f vs.toArray w fun e w' => ∃ v M' r σ', e = .returned v ∧ K r σ' ∧ Stp gl w M σ w' M' σ' ∧ rep w' M' r v

def intWp (op : BinOp) (k : IntKind) (x y : Int) (K : AV → Prop) : Prop :=
  match op, k with
  | .add, .i64 => I64 (x + y) ∧ K (.int (x + y))
  | .sub, .i64 => I64 (x - y) ∧ K (.int (x - y))
  | .mul, .i64 => I64 (x * y) ∧ K (.int (x * y))
  | .add, k => K (.raw (.int k (k.wrap (x + y))))
  | .sub, k => K (.raw (.int k (k.wrap (x - y))))
  | .mul, k => K (.raw (.int k (k.wrap (x * y))))
  | .quo, .i64 => (0 ≤ x ∧ x ≤ 9223372036854775807 ∧ 0 < y) ∧ K (.int (x / y))
  | .rem, k => (0 ≤ x ∧ 0 < y) ∧ K (.raw (.int k (x % y)))
  | .and, .i64 => (0 ≤ x ∧ x < 9223372036854775808 ∧ 0 ≤ y ∧ y < 9223372036854775808) ∧ K (.int ((x.toNat &&& y.toNat : Nat) : Int))
  | .and, .u64 => (0 ≤ x ∧ x < 18446744073709551616 ∧ 0 ≤ y ∧ y < 18446744073709551616) ∧ K (.raw (.int .u64 ((x.toNat &&& y.toNat : Nat) : Int)))
  | .or, .i64 => (0 ≤ x ∧ x < 9223372036854775808 ∧ 0 ≤ y ∧ y < 9223372036854775808) ∧ K (.int ((x.toNat ||| y.toNat : Nat) : Int))
  | .xor, .i64 => (0 ≤ x ∧ x < 9223372036854775808 ∧ 0 ≤ y ∧ y < 9223372036854775808) ∧ K (.int ((x.toNat ^^^ y.toNat : Nat) : Int))
  | .andNot, .i64 => (0 ≤ x ∧ x < 9223372036854775808 ∧ 0 ≤ y ∧ y < 9223372036854775808) ∧ K (.int ((x.toNat ^^^ (x.toNat &&& y.toNat) : Nat) : Int))
  | .eql, _ => K (.bool (decide (x = y)))
  | .neq, _ => K (.bool (decide (x ≠ y)))
  | .lss, _ => K (.bool (decide (x < y)))
  | .leq, _ => K (.bool (decide (x ≤ y)))
  | .gtr, _ => K (.bool (decide (y < x)))
  | .geq, _ => K (.bool (decide (y ≤ x)))
  | _, _ => False
def shiftWp (op : BinOp) (k : IntKind) (x y : Int) (K : AV → Prop) : Prop :=
  match op, k with
  | .shl, .i64 => (0 ≤ y ∧ y < 64 ∧ I64 (x * 2 ^ y.toNat)) ∧ K (.int (x * 2 ^ y.toNat))
  | .shr, k => (0 ≤ y ∧ y < 64 ∧ k.bits = 64) ∧ K (.raw (.int k (x / 2 ^ y.toNat)))
  | _, _ => False
def strWp (op : BinOp) (x y : List UInt8) (K : AV → Prop) : Prop :=
  match op with
  | .add => I64 (x.length + y.length) ∧ K (.str (x ++ y))
  | .eql => K (.bool (decide (x = y)))
  | .neq => K (.bool (decide (x ≠ y)))
  | .lss => K (.bool (Op.bytesLess x y))
  | _ => False
/-- Against nil. -/
def isNilC : AV → Bool
  | .raw (.slice none _ _) => true
  | .raw (.pointer none) => true
  | .raw .nilFunc => true
  | _ => false
def nilWp (ty : Ty) (op : BinOp) (a b : AV) (K : AV → Prop) : Prop :=
  let out (q : Bool) : Prop := match op with
    | .eql => K (.bool q)
    | .neq => K (.bool !q)
    | _ => False
  match ty, b, a with
  | .slice _, .raw (.slice none _ _), .raw (.slice none _ _) => out true
  | .slice _, .raw (.slice none _ _), .raw (.slice (some _) _ _) => out false
  | .slice _, .raw (.slice none _ _), .vec .. => out false
  | .slice _, .raw (.slice none _ _), .mt => out false
  | .slice _, .raw (.slice none _ _), .list _ xs => (xs = [] → out true) ∧ out false
  | .ptr _, .raw (.pointer none), .raw (.pointer none) => out true
  | .ptr _, .raw (.pointer none), .raw (.pointer (some _)) => out false
  | .ptr _, .raw (.pointer none), .cptr _ => out false
  | .func, .raw .nilFunc, .raw .nilFunc => out true
  | .func, .raw .nilFunc, .clos .. => out false
  | _, _, _ => False
def binWp (ty : Ty) (op : BinOp) (a b : AV) (K : AV → Prop) : Prop :=
  match a, b with
  | .raw (.int k x), .raw (.int k' y) =>
    match op with
    | .shl => shiftWp .shl k x y K
    | .shr => shiftWp .shr k x y K
    | op => k = k' ∧ intWp op k x y K
  | .raw (.bool x), .raw (.bool y) => match ty, op with
    | .bool, .eql => K (.bool (x == y))
    | .bool, .neq => K (.bool (x != y))
    | _, _ => False
  | .str x, .str y => strWp op x y K
  | _, _ => False
def unWp (op : UnOp) (a : AV) (K : AV → Prop) : Prop :=
  match op, a with
  | .not, .raw (.bool b) => K (.bool (!b))
  | .neg, .raw (.int .i64 n) => I64 (-n) ∧ K (.int (-n))
  | .neg, .raw (.int .u64 n) => K (.raw (.int .u64 (IntKind.u64.wrap (-n))))
  | _, _ => False
def isU8 (P : Program) (e : TypeId) : Prop := match TI P e with
  | some te => match te.ty with | .int .u8 => True | _ => False
  | none => False
def convWp (P : Program) (s d : Ty) (a : AV) (K : AV → Prop) : Prop :=
  match s, d, a with
  | .int _, .int .i64, .raw (.int _ n) => I64 n ∧ K (.int n)
  | .int _, .int k, .raw (.int _ n) => K (.raw (.int k (k.wrap n)))
  | .str, .str, .str l => K (.str l)
  | .slice e, .str, .list 1 xs => isU8 P e ∧ ∃ l : List UInt8, xs = l.map (fun c => [AV.byte c.toNat]) ∧ K (.str l)
  | .slice e, .str, .vec _ 1 xs => isU8 P e ∧ ∃ l : List UInt8, xs = l.map (fun c => [AV.byte c.toNat]) ∧ K (.str l)
  | .slice e, .str, .mt => isU8 P e ∧ K (.str [])
  | .slice e, .str, .raw (.slice none _ _) => isU8 P e ∧ K (.str [])
  | _, _, _ => False
/-- Bytes of an own block to a string. -/
def convOwn (P : Program) (s d : Ty) (σ : Store) (b o n : Nat) (K : AV → Prop) : Prop :=
  match s, d with
  | .slice e, .str => match look σ b with
    | some (.own cs) => isU8 P e ∧ o + n ≤ cs.length ∧ ∃ l : List UInt8, (cs.drop o).take n = l.map (fun c => AV.byte c.toNat) ∧ K (.str l)
    | _ => False
  | _, _ => False
def bndWp (x : Option AV) (d : Int) (K : Int → Prop) : Prop :=
  match x with
  | none => K d
  | some (.raw (.int _ n)) => K n
  | _ => False
def sliceWp (sz : Nat) (a : AV) (lo hi mx : Option AV) (K : AV → Prop) : Prop :=
  match a with
  | .list s xs => s = sz ∧ (match mx with
    | none => bndWp hi xs.length fun h => bndWp lo 0 fun l => (0 ≤ l ∧ l ≤ h ∧ h ≤ xs.length) ∧ K (.list s ((xs.take h.toNat).drop l.toNat))
    | some _ => False)
  | .vec _ s xs => s = sz ∧ (match mx with
    | none => bndWp hi xs.length fun h => bndWp lo 0 fun l => (0 ≤ l ∧ l ≤ h ∧ h ≤ xs.length) ∧ K (.list s ((xs.take h.toNat).drop l.toNat))
    | some _ => False)
  | .raw (.slice (some ⟨b, o, none⟩) n c) => match mx, hi with
    | some _, none => False
    | mx, hi => bndWp mx c fun m => bndWp hi n fun h => bndWp lo 0 fun l => (0 ≤ l ∧ l ≤ h ∧ h ≤ m ∧ m ≤ c) ∧ K (.msl b (o + if m = l then 0 else l.toNat * sz) (h - l).toNat (m - l).toNat)
  | _ => False

/-- Parts of a composite laid over its zero cells. -/
def layA (place : Nat → Option (Nat × Nat)) : List (Nat × AV) → List AV → Option (List AV)
  | [], cs => some cs
  | (i, v) :: r, cs =>
    match place i, cellsOf v with
    | some (o, n), some c => bif c.length == n && decide (o + n ≤ cs.length) then layA place r (splice cs o c) else none
    | _, _ => none
def rowsOf (n : Nat) (sz : Nat) (cs : List AV) : List (List AV) :=
  match n with
  | 0 => []
  | n + 1 => cs.take sz :: rowsOf n sz (cs.drop sz)
def reps {α : Type} : Nat → List α → List α
  | 0, _ => []
  | n + 1, l => l ++ reps n l
def allTI (P : Program) : List (Nat × TypeId) → Prop
  | [] => True
  | p :: r => (TI P p.2).isSome = true ∧ allTI P r
def fieldPl (P : Program) (fs : List (Nat × TypeId)) (i : Nat) : Option (Nat × Nat) :=
  match fs[i]? with
  | some (o, t) => match TI P t with | some ti => some (o, ti.sz) | none => none
  | none => none

section
variable (P : Program)

def loadWp (ti : TyI) (σ : Store) (a : AV) (K : AV → Store → Prop) : Prop :=
  match a with
  | .cptr cs => (0 < ti.sz ∧ ti.sz ≤ cs.length) ∧ K (mkV ti.ty.agg (cs.take ti.sz)) σ
  | .raw (.pointer (some ⟨b, o, none⟩)) => match look σ b with
    | some (.own cs) => (0 < ti.sz ∧ o + ti.sz ≤ cs.length) ∧ K (mkV ti.ty.agg ((cs.drop o).take ti.sz)) σ
    | some (.fixd cs) => (0 < ti.sz ∧ o + ti.sz ≤ cs.length) ∧ K (mkV ti.ty.agg ((cs.drop o).take ti.sz)) σ
    | _ => False
  | _ => False
def storeWp (ti : TyI) (σ : Store) (a x : AV) (K : AV → Store → Prop) : Prop :=
  match a, cellsOf x with
  | .raw (.pointer (some ⟨b, o, none⟩)), some c => match look σ b with
    | some (.own cs) => (c.length = ti.sz ∧ o + ti.sz ≤ cs.length) ∧ K .top (setAt σ b (.own (splice cs o c)))
    | _ => False
  | _, _ => False
def fieldWp (ti : TyI) (a : AV) (f : Nat) (K : AV → Prop) : Prop :=
  match ti.ty with
  | .strct fs => match fieldPl P fs f with
    | some (o, n) => n ≠ 0 ∧ (match a with
      | .cptr cs => K (.cptr (cs.drop o))
      | .raw (.pointer (some ⟨b, p, none⟩)) => K (.ptr b (p + o))
      | _ => False)
    | none => False
  | _ => False
def indexWp (ti : TyI) (a i : AV) (K : AV → Prop) : Prop :=
  match i with
  | .raw (.int _ n) =>
    match ti.ty with
    | .slice e => match TI P e with
      | some te => match a with
        | .list sz xs => sz = te.sz ∧ 0 ≤ n ∧ ∃ x, xs[n.toNat]? = some x ∧ K (.cptr x)
        | .vec _ sz xs => sz = te.sz ∧ 0 ≤ n ∧ ∃ x, xs[n.toNat]? = some x ∧ K (.cptr x)
        | .raw (.slice (some ⟨b, o, none⟩) len _) => (0 ≤ n ∧ n < len) ∧ K (.ptr b (o + n.toNat * te.sz))
        | _ => False
      | none => False
    | .arr m e => match TI P e with
      | some te => match a with
        | .cptr cs => (0 ≤ n ∧ n < m ∧ 1 < m) ∧ K (.cptr (cs.drop (n.toNat * te.sz)))
        | .raw (.pointer (some ⟨b, o, none⟩)) => (0 ≤ n ∧ n < m ∧ 1 < m) ∧ K (.ptr b (o + n.toNat * te.sz))
        | _ => False
      | none => False
    | _ => False
  | _ => False
def elemWp (ti : TyI) (a i : AV) (K : AV → Prop) : Prop :=
  match i, a with
  | .raw (.int _ n), .str l => match ti.ty with
    | .str => 0 ≤ n ∧ ∃ c, l[n.toNat]? = some c ∧ K (.byte c.toNat)
    | _ => False
  | .raw (.int _ n), .agg cs => match ti.ty with
    | .arr m e => match TI P e with
      | some te => (0 ≤ n ∧ n < m ∧ 0 < te.sz ∧ (n.toNat + 1) * te.sz ≤ cs.length) ∧ K (mkV te.ty.agg ((cs.drop (n.toNat * te.sz)).take te.sz))
      | none => False
    | _ => False
  | _, _ => False
def lenWp (ti : TyI) (a : AV) (K : AV → Prop) : Prop :=
  match ti.ty, a with
  | .slice _, .list _ xs => K (.int xs.length)
  | .slice _, .vec _ _ xs => K (.int xs.length)
  | .slice _, .raw (.slice _ n _) => K (.int n)
  | .slice _, .mt => K (.int 0)
  | .str, .str l => K (.int l.length)
  | _, _ => False
/-- 'append': onto nil, or onto a slice of the call's own. 'ys': the rows appended. -/
def rowsIn (σ : Store) (sz : Nat) : AV → Option (List (List AV))
  | .list s xs => bif s == sz then some xs else none
  | .vec _ s xs => bif s == sz then some xs else none
  | .mt => some []
  | .raw (.slice none n _) => bif n == 0 then some [] else none
  | .raw (.slice (some ⟨b, o, none⟩) n _) => match look σ b with
    | some (.own cs) => bif decide (o + n * sz ≤ cs.length) then some (rowsOf n sz (cs.drop o)) else none
    | _ => none
  | .str l => bif sz == 1 then some (l.map fun c => [.byte c.toNat]) else none
  | _ => none
/-- The new block of an append: as a slice that grows, or as an own block. -/
def newBuf (own : Bool) (sz : Nat) (ys : List (List AV)) (σ : Store) (K : AV → Store → Prop) : Prop :=
  bif own then ∀ b c rest, fresh b σ → ys.length ≤ c → c * sz ≤ ys.length * sz + rest.length → K (.msl b 0 ys.length c) ((b, .own (ys.flatten ++ rest)) :: σ)
  else ∀ b, fresh b σ → K (.vec b sz ys) ((b, .tail (ys.length * sz)) :: σ)
def appendWp (own : Bool) (te : TyI) (a x : AV) (σ : Store) (K : AV → Store → Prop) : Prop :=
  match rowsIn σ te.sz x with
  | none => False
  | some ys => match a with
    | .raw (.slice none 0 0) => (0 < te.sz ∧ ys.length ≤ 70368744177664 ∧ ys.length * te.by_ ≤ 70368744177664) ∧ (ys = [] → K .nils σ) ∧ (ys ≠ [] → newBuf own te.sz ys σ K)
    | .mt => (0 < te.sz ∧ ys.length ≤ 70368744177664 ∧ ys.length * te.by_ ≤ 70368744177664) ∧ (ys = [] → K .mt σ) ∧ (ys ≠ [] → newBuf own te.sz ys σ K)
    | .vec b sz xs => sz = te.sz ∧ (match look σ b with
      | some (.tail n) => n = xs.length * te.sz ∧ (0 < te.sz ∧ xs.length + ys.length ≤ 70368744177664 ∧ (xs.length + ys.length) * te.by_ ≤ 70368744177664) ∧ ∀ b', fresh b' (del σ b) → K (.vec b' te.sz (xs ++ ys)) ((b', .tail ((xs.length + ys.length) * te.sz)) :: del σ b)
      | _ => False)
    | .raw (.slice (some ⟨b, 0, none⟩) n c) => match look σ b with
      | some (.own cs) => (0 < te.sz ∧ n ≤ c ∧ c * te.sz ≤ cs.length ∧ n + ys.length ≤ 70368744177664 ∧ (n + ys.length) * te.by_ ≤ 70368744177664) ∧
        ∀ b' c' rest, fresh b' (del σ b) → n + ys.length ≤ c' → c ≤ c' → c' * te.sz ≤ (n + ys.length) * te.sz + rest.length → K (.msl b' 0 (n + ys.length) c') ((b', .own (cs.take (n * te.sz) ++ ys.flatten ++ rest)) :: del σ b)
      | _ => False
    | _ => False

def builtinWp (own : Bool) (b : Builtin) (ts : Array TypeId) (as : List AV) (σ : Store) (K : AV → Store → Prop) : Prop :=
  match b, ts.toList, as with
  | .len, [t], [a] => match TI P t with
    | some ti => lenWp ti a fun r => K r σ
    | none => False
  | .append, [t, u], [a, x] => match TI P t, TI P u with
    | some ti, some ui => match ti.ty, ui.ty with
      | .slice e, .slice _ => match TI P e with
        | some te => appendWp own te a x σ K
        | none => False
      | .slice e, .str => match TI P e with
        | some te => appendWp own te a x σ K
        | none => False
      | _, _ => False
    | _, _ => False
  | .clear, [t], [a] => match TI P t with
    | some ti => match ti.ty with
      | .slice e => match TI P e, a with
        | some te, .raw (.slice (some ⟨b, o, none⟩) n _) => match look σ b with
          | some (.own cs) => (0 < te.sz ∧ o + n * te.sz ≤ cs.length) ∧ K (.tup []) (setAt σ b (.own (splice cs o (reps n (te.zero.map ofCell)))))
          | _ => False
        | _, _ => False
      | _ => False
    | none => False
  | _, _, _ => False

variable (gl : Globs)
def opWp (own : Bool) (op : Op) (ρ : Env) (σ : Store) (K : AV → Store → Prop) : Prop :=
  match op with
  | .move x => K (ev gl ρ x) σ
  | .assign x => K (ev gl ρ x) σ
  | .pick c a b => match ev gl ρ c with
    | .raw (.bool t) => cnd t (K (ev gl ρ a) σ) (K (ev gl ρ b) σ)
    | _ => False
  | .alloc t => match TI P t with
    | some ti => ∀ b, fresh b σ → K (.ptr b 0) ((b, .own (ti.zero.map ofCell)) :: σ)
    | none => False
  | .box _ x => match cellsOf (ev gl ρ x) with
    | some cs => bif own then ∀ b, fresh b σ → K (.ptr b 0) ((b, .own cs) :: σ) else K (.cptr cs) σ
    | none => False
  | .build t parts => match TI P t with
    | some ti => match ti.ty with
      | .strct fs => match layA (fieldPl P fs) (parts.toList.map fun (i, x) => (i, ev gl ρ x)) (ti.zero.map ofCell) with
        | some cs => allTI P fs ∧ K (.agg cs) σ
        | none => False
      | .arr _ e => match TI P e with
        | some te => match layA (fun i => some (i * te.sz, te.sz)) (parts.toList.map fun (i, x) => (i, ev gl ρ x)) (ti.zero.map ofCell) with
          | some cs => K (.agg cs) σ
          | none => False
        | none => False
      | _ => False
    | none => False
  | .buildSlice t n parts => match TI P t with
    | some ti => match ti.ty with
      | .slice e => match TI P e with
        | some te => (0 < te.sz ∧ n * te.sz ≤ 16777216) ∧ (match layA (fun i => some (i * te.sz, te.sz)) (parts.toList.map fun (i, x) => (i, ev gl ρ x)) (reps n (te.zero.map ofCell)) with
          | some cs => bif own then ∀ b, fresh b σ → K (.vec b te.sz (rowsOf n te.sz cs)) ((b, .tail (n * te.sz)) :: σ) else bif n == 0 then K .mt σ else K (.list te.sz (rowsOf n te.sz cs)) σ
          | none => False)
        | none => False
      | _ => False
    | none => False
  | .load t a => match TI P t with
    | some ti => loadWp ti σ (ev gl ρ a) K
    | none => False
  | .store t a x => match TI P t with
    | some ti => storeWp ti σ (ev gl ρ a) (ev gl ρ x) K
    | none => False
  | .nilCheck x => match ev gl ρ x with
    | .raw (.pointer (some a)) => K (.raw (.pointer (some a))) σ
    | .cptr cs => K (.cptr cs) σ
    | .clos (.func f) fs cs => K (.clos (.func f) fs cs) σ
    | _ => False
  | .binOp o t x y _ => match TI P t with
      | some ti => bif isNilC (ev gl ρ y) then nilWp ti.ty o (ev gl ρ x) (ev gl ρ y) fun r => K r σ else binWp ti.ty o (ev gl ρ x) (ev gl ρ y) fun r => K r σ
      | none => False
  | .unOp o _ x => unWp o (ev gl ρ x) fun r => K r σ
  | .convert s d x => match TI P s, TI P d with
    | some si, some di => match ev gl ρ x with
      | .raw (.slice (some ⟨b, o, none⟩) n _) => convOwn P si.ty di.ty σ b o n fun r => K r σ
      | a => convWp P si.ty di.ty a fun r => K r σ
    | _, _ => False
  | .makeFunc fn first caps => K (.clos fn (first.toList.map (ev gl ρ)) (caps.toList.map (ev gl ρ))) σ
  | .makeSlice t l c => match TI P t with
    | some ti => match ti.ty with
      | .slice e => match TI P e, ev gl ρ l, ev gl ρ c with
        | some te, .raw (.int .i64 n), .raw (.int .i64 m) => (0 < te.sz ∧ 0 ≤ n ∧ n ≤ m ∧ m * te.by_ ≤ 140737488355328 ∧ m ≤ 140737488355328) ∧
          (bif own then ∀ b, fresh b σ → K (.msl b 0 n.toNat m.toNat) ((b, .own (reps m.toNat (te.zero.map ofCell))) :: σ) else n = m ∧ K (.list te.sz (List.replicate n.toNat (te.zero.map ofCell))) σ)
        | _, _, _ => False
      | _ => False
    | none => False
  | .fieldAddr t x f => match TI P t with
    | some ti => fieldWp P ti (ev gl ρ x) f fun r => K r σ
    | none => False
  | .indexAddr t x i => match TI P t with
    | some ti => indexWp P ti (ev gl ρ x) (ev gl ρ i) fun r => K r σ
    | none => False
  | .index t x i => match TI P t with
    | some ti => elemWp P ti (ev gl ρ x) (ev gl ρ i) fun r => K r σ
    | none => False
  | .slice t x lo hi mx => match TI P t with
    | some ti => match ti.ty with
      | .slice e => match TI P e with
        | some te => sliceWp te.sz (ev gl ρ x) (lo.map (ev gl ρ)) (hi.map (ev gl ρ)) (mx.map (ev gl ρ)) fun r => K r σ
        | none => False
      | _ => False
    | none => False
  | .extract x i => match ev gl ρ x with
    | .tup vs => match vs[i]? with
      | some v => K v σ
      | none => False
    | _ => False
  | .call c => match c.callee with
    | .builtin b => builtinWp P own b c.argTypes (c.args.toList.map (ev gl ρ)) σ K
    | .value f => match ev gl ρ f with
      | .clos (.func g) first caps => CallWp P gl g (first ++ c.args.toList.map (ev gl ρ) ++ caps) σ K
      | _ => False
    | _ => False
  | _ => False

def put (ρ : Env) : Option Nat → AV → Env
  | some d, v => (d, v) :: ρ
  | none, _ => ρ
def ownAt (cf : Cfg) : Option Nat → Bool
  | some d => cf.own.contains d
  | none => false
def dstOk (cf : Cfg) : Option Nat → Bool
  | some d => Nat.blt d cf.nt
  | none => true
def opsWp (cf : Cfg) (all : List Oper) : List Oper → Env → Store → (Env → Store → Prop) → Prop
  | [], ρ, σ, K => K ρ σ
  | o :: r, ρ, σ, K => dstOk cf o.dst = true ∧
    match o.guard with
    | none => opWp P gl (ownAt cf o.dst) o.op ρ σ fun v σ => opsWp cf all r (put ρ o.dst v) σ K
    | some (g, p) =>
      match (all[g]?).bind (·.dst) with
      | some t => match get ρ t with
        | .raw (.bool q) =>
          grd p q (opWp P gl (ownAt cf o.dst) o.op ((t, .bool p) :: ρ) σ fun v σ => opsWp cf all r (put ((t, .bool p) :: ρ) o.dst v) σ K)
            (opsWp cf all r (put ((t, .bool !p) :: ρ) o.dst (.tup [])) σ K)
        | .tup [] => opsWp cf all r (put ρ o.dst (.tup [])) σ K
        | _ => False
      | none => False

/-- Loops are met by hand: LoopWp.intro. -/
def Fits (cf : Cfg) (w : World) (M : Marks) (ρ : Env) (a : Act) : Prop :=
  (∀ i, rep w M (get ρ i) (a.tmps.getD i undef)) ∧ a.defers = [] ∧ a.tmps.size = cf.nt
def Good (cf : Cfg) (c : Code) (ρ : Env) (σ : Store) (K : Exit → Env → Store → Prop) : Prop :=
  ∀ w M a, Inv gl w M σ → Fits cf w M ρ a → c.wp P (fun e a' w' => ∃ ρ' σ' M', K e ρ' σ' ∧ Stp gl w M σ w' M' σ' ∧ Fits cf w' M' ρ' a') a w
def LoopWp (cf : Cfg) (c : Code) (ρ : Env) (σ : Store) (K : Exit → Env → Store → Prop) : Prop := Good P gl cf (.loop c) ρ σ K
def DrawWp (cf : Cfg) (id : Nat) (ops : Array Oper) (ρ : Env) (σ : Store) (K : Exit → Env → Store → Prop) : Prop := Good P gl cf (.region id ops true) ρ σ K

def cWp (cf : Cfg) : Code → Env → Store → (Exit → Env → Store → Prop) → Prop
  | .skip, ρ, σ, K => K .normal ρ σ
  | .region _ ops false, ρ, σ, K => opsWp P gl cf ops.toList ops.toList ρ σ fun ρ σ => K .normal (keep cf.ks ρ) σ
  | .region id ops true, ρ, σ, K => DrawWp P gl cf id ops ρ σ fun e ρ σ => K e (keep cf.ks ρ) σ
  | .seq a b, ρ, σ, K => cWp cf a ρ σ fun e ρ σ => match e with
    | .normal => cWp cf b ρ σ K
    | e => K e ρ σ
  | .cond c a b, ρ, σ, K => match ev gl ρ c with
    | .raw (.bool q) => cnd q (cWp cf a ρ σ K) (cWp cf b ρ σ K)
    | _ => False
  | .block id c, ρ, σ, K => cWp cf c ρ σ fun e ρ σ => match e with
    | .exit n => bif n == id then K .normal ρ σ else K (.exit n) ρ σ
    | e => K e ρ σ
  | .loop c, ρ, σ, K => LoopWp P gl cf c ρ σ K
  | .exit id, ρ, σ, K => K (.exit id) ρ σ
  | .ret, ρ, σ, K => K .ret ρ σ
  | _, _, _, _ => False

/-- What a function hands back. -/
def resOf (ρ : Env) (σ : Store) : ResultVar → (AV → Prop) → Prop
  | .tmp t, K => K (get ρ t)
  | .cell a t, K => match TI P t with
    | some ti => loadWp ti σ (get ρ a) fun v _ => K v
    | none => False
def ressOf (ρ : Env) (σ : Store) : List ResultVar → (List AV → Prop) → Prop
  | [], K => K []
  | r :: rs, K => resOf P ρ σ r fun v => ressOf ρ σ rs fun vs => K (v :: vs)
def retWp (rs : List ResultVar) (R : AV → Store → Prop) (e : Exit) (ρ : Env) (σ : Store) : Prop :=
  match e with
  | .normal => ressOf P ρ σ rs fun vs => match vs with | [v] => R v σ | vs => R (.tup vs) σ
  | .ret => ressOf P ρ σ rs fun vs => match vs with | [v] => R v σ | vs => R (.tup vs) σ
  | _ => False
def enterEnv : Nat → List AV → Env
  | _, [] => []
  | i, a :: r => (i, a) :: enterEnv (i + 1) r
end
end Go.AX
end
