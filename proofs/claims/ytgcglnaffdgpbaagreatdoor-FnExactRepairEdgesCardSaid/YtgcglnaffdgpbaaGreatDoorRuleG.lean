/- Rules of proof over abstract values, for any program. -/
import Derived.Test.YtgcglnaffdgpbaaGreatDoorRuleF
import Derived.Test.YtgcglnaffdgpbaaGreatDoorPlainA
import Derived.Deep.Slices
import Derived.ChangeArms
import Derived.DataReads
section
/- How the plain data stand as abstract values. -/
namespace Go.AX
open Go AG
@[go_sem] def eI (n : Int) : List AV := [.int n]
@[go_sem] def eB (b : Bool) : List AV := [.bool b]
@[go_sem] def eE (e : Ed) : List AV := [.int e.fr, .int e.le, .int e.to]
def ints (l : List Int) : AV := .list 1 (l.map eI)
@[go_sem] def eL (l : List Int) : List AV := [ints l]
def intss (l : List (List Int)) : AV := .list 1 (l.map eL)
@[go_sem] def eLL (l : List (List Int)) : List AV := [intss l]
def intsss (l : List (List (List Int))) : AV := .list 1 (l.map eLL)
attribute [go_sem] intsss
def bools (l : List Bool) : AV := .list 1 (l.map eB)
def edges (l : List Ed) : AV := .list 3 (l.map eE)
@[go_sem] def eS (s : Ts) : List AV := [.int s.al, .int s.st, edges s.ed]
@[go_sem] def eA (a : Au) : List AV := [.int a.al, intss a.nx, bools a.ac]
def systems (l : List Ts) : AV := .list 3 (l.map eS)
def automata (l : List Au) : AV := .list 3 (l.map eA)
@[go_sem] def eN (n : Nt) : List AV := [systems n.ps, automata n.as, ints n.st, .int n.al, .int n.md, .int n.x]
attribute [go_sem] ints intss bools edges systems automata
theorem flat_ints (l : List Int) : (l.map eI).flatten = l.map AV.int := by
  induction l with
  | nil => rfl
  | cons x l ih => simp only [List.map_cons, List.flatten_cons, ih]; rfl
theorem rows_eI (l : List Int) : Rows 1 (l.map eI) := Rows.map (f := eI) (fun _ => rfl) l
theorem rows_eE (l : List Ed) : Rows 3 (l.map eE) := Rows.map (f := eE) (fun _ => rfl) l
theorem rows_eS (l : List Ts) : Rows 3 (l.map eS) := Rows.map (f := eS) (fun _ => rfl) l
/-- An own block of rows as data. -/
theorem Gh.rows {gl : Globs} {b c sz : Nat} {xs : List (List AV)} {rest : List AV} (h : Rows sz xs) (hc : xs.length ≤ c) : Gh gl [(b, .own (xs.flatten ++ rest))] (.msl b 0 xs.length c) [] (.list sz xs) := by
  have := Gh.slice (gl := gl) (b := b) (n := xs.length) (c := c) (sz := sz) (GhAll.refl [] (xs.flatten ++ rest)) hc (by rw [List.length_append, h.len]; omega)
  rwa [rowsOf_app rest h] at this
theorem Gh.ints {gl : Globs} {b n c : Nat} {l : List Int} {rest : List AV} (hn : n = l.length) (hc : n ≤ c) : Gh gl [(b, .own (l.map AV.int ++ rest))] (.msl b 0 n c) [] (ints l) := by
  subst hn
  have := Gh.rows (gl := gl) (b := b) (c := c) (rest := rest) (rows_eI l) (by simpa using hc)
  rw [flat_ints, List.length_map] at this
  exact this
end Go.AX
end
section
/- Own blocks of rows: what is read at a place, what a store leaves. -/
namespace Go.AX
open Go AG
theorem own_read {α : Type} {f : α → AV} {l : List α} {i : Nat} {x : α} (h : l[i]? = some x) : ((l.map f).drop i).take 1 = [f x] := by
  have hlt : i < l.length := (List.getElem?_eq_some_iff.1 h).1
  have hx : l[i] = x := (List.getElem?_eq_some_iff.1 h).2
  rw [← List.map_drop, List.drop_eq_getElem_cons hlt, List.map_cons, List.take_succ_cons, List.take_zero, hx]
theorem own_write {α : Type} {f : α → AV} {l : List α} {i : Nat} {y : α} (h : i < l.length) : splice (l.map f) i [f y] = (l.set i y).map f := by
  apply List.ext_getElem?
  intro j
  unfold splice
  rw [List.getElem?_map, List.getElem?_set, List.append_assoc]
  by_cases hj : j < i
  · rw [List.getElem?_append_left (by simp; omega), List.getElem?_take, if_pos hj, List.getElem?_map, if_neg (by omega)]
  · rw [List.getElem?_append_right (by simp; omega)]
    have e : (List.take i (l.map f)).length = i := by simp; omega
    rw [e]
    by_cases hji : i = j
    · subst hji
      rw [if_pos rfl, if_pos h, Nat.sub_self]
      rfl
    · rw [if_neg hji]
      have e2 : j - i = (j - i - 1) + 1 := by omega
      rw [e2, List.singleton_append, List.getElem?_cons_succ, List.getElem?_drop, List.getElem?_map]
      congr 2
      simp; omega
theorem flat_len {α : Type} {f : α → List AV} {sz : Nat} (hf : ∀ x, (f x).length = sz) (l : List α) : (l.map f).flatten.length = l.length * sz := by
  rw [(Rows.map hf l).len, List.length_map]
theorem flat_drop {α : Type} {f : α → List AV} {sz : Nat} (hf : ∀ x, (f x).length = sz) : ∀ (l : List α) (i : Nat), i ≤ l.length → (l.map f).flatten.drop (i * sz) = ((l.drop i).map f).flatten
  | l, 0, _ => by simp
  | [], i + 1, h => by simp at h
  | x :: l, i + 1, h => by
    simp only [List.map_cons, List.flatten_cons, List.drop_succ_cons]
    rw [Nat.add_mul, Nat.one_mul, Nat.add_comm, ← List.drop_drop, List.drop_left' (hf x)]
    exact flat_drop hf l i (by simpa using h)
theorem flat_take {α : Type} {f : α → List AV} {sz : Nat} (hf : ∀ x, (f x).length = sz) : ∀ (l : List α) (i : Nat), i ≤ l.length → (l.map f).flatten.take (i * sz) = ((l.take i).map f).flatten
  | l, 0, _ => by simp
  | [], i + 1, h => by simp at h
  | x :: l, i + 1, h => by
    simp only [List.map_cons, List.flatten_cons, List.take_succ_cons]
    rw [Nat.add_mul, Nat.one_mul, Nat.add_comm, ← hf x, List.take_length_add_append, hf x, flat_take hf l i (by simpa using h)]
/-- Reading a row, or a part of it. -/
theorem rows_read {α : Type} {f : α → List AV} {sz : Nat} (hf : ∀ x, (f x).length = sz) {l : List α} {i : Nat} {x : α} (h : l[i]? = some x) (k n : Nat) (hk : k + n ≤ sz) : ((l.map f).flatten.drop (i * sz + k)).take n = ((f x).drop k).take n := by
  have hlt : i < l.length := (List.getElem?_eq_some_iff.1 h).1
  have hx : l[i] = x := (List.getElem?_eq_some_iff.1 h).2
  rw [← List.drop_drop, flat_drop hf l i (by omega), List.drop_eq_getElem_cons hlt, hx, List.map_cons, List.flatten_cons, List.drop_append_of_le_length (by rw [hf x]; omega), List.take_append_of_le_length (by rw [List.length_drop, hf x]; omega)]
theorem rows_row {α : Type} {f : α → List AV} {sz : Nat} (hf : ∀ x, (f x).length = sz) {l : List α} {i : Nat} {x : α} (h : l[i]? = some x) : ((l.map f).flatten.drop (i * sz)).take sz = f x := by
  have := rows_read hf h 0 sz (by omega)
  rw [Nat.add_zero, List.drop_zero, List.take_of_length_le (l := f x) (by rw [hf x]; omega)] at this
  exact this
/-- Storing a row. -/
theorem rows_write {α : Type} {f : α → List AV} {sz : Nat} (hf : ∀ x, (f x).length = sz) {l : List α} {i : Nat} {y : α} (h : i < l.length) : splice (l.map f).flatten (i * sz) (f y) = ((l.set i y).map f).flatten := by
  unfold splice
  rw [flat_take hf l i (by omega), hf y, show i * sz + sz = (i + 1) * sz by rw [Nat.add_mul]; omega, flat_drop hf l (i + 1) (by omega)]
  have : l.set i y = l.take i ++ y :: l.drop (i + 1) := by
    rw [List.set_eq_take_append_cons_drop, if_pos h]
  rw [this, List.map_append, List.flatten_append, List.map_cons, List.flatten_cons, List.append_assoc]
/-- Storing a part of a row. -/
theorem rows_cell {α : Type} {f : α → List AV} {sz : Nat} (hf : ∀ x, (f x).length = sz) {l : List α} {i : Nat} {x y : α} {k : Nat} {c : List AV} (h : l[i]? = some x) (hk : k + c.length ≤ sz) (hc : splice (f x) k c = f y) : splice (l.map f).flatten (i * sz + k) c = ((l.set i y).map f).flatten := by
  have hlt : i < l.length := (List.getElem?_eq_some_iff.1 h).1
  have hx : l[i] = x := (List.getElem?_eq_some_iff.1 h).2
  rw [← rows_write hf hlt (y := y), ← hc]
  have hl : (l.map f).flatten = ((l.take i).map f).flatten ++ f x ++ ((l.drop (i + 1)).map f).flatten := by
    rw [← hx, List.append_assoc, ← List.flatten_cons, ← List.map_cons, ← List.drop_eq_getElem_cons hlt, ← List.flatten_append, ← List.map_append, List.take_append_drop]
  have hp : ((l.take i).map f).flatten.length = i * sz := by rw [flat_len hf, List.length_take, Nat.min_eq_left (by omega)]
  have hfl := hf x
  rw [hl]
  generalize hA : ((l.take i).map f).flatten = A at *
  generalize f x = B at *
  generalize ((l.drop (i + 1)).map f).flatten = C at *
  have hs : (splice B k c).length = B.length := by simp [splice]; omega
  rw [splice_mid (pre := A) (d := B) hp.symm hs]
  unfold splice
  have e1 : (A ++ B ++ C).take (i * sz + k) = A ++ B.take k := by
    rw [← hp, List.append_assoc, List.take_length_add_append, List.take_append_of_le_length (by omega)]
  have e2 : (A ++ B ++ C).drop (i * sz + k + c.length) = B.drop (k + c.length) ++ C := by
    rw [← hp, Nat.add_assoc, ← List.drop_drop, List.append_assoc, List.drop_left, List.drop_append_of_le_length (by omega)]
  rw [e1, e2]
  simp only [List.append_assoc]
theorem Pure.seen {P : Program} {gl : Globs} {f : FuncId} (xs : List AV) {ys : List AV} {r : AV} (h : Pure P gl f ys r) (hs : SeesAll gl [] xs ys) : Pure P gl f xs r := Pure.args h hs
theorem append_own {te : TyI} {a x : AV} {ys : List (List AV)} {σ : Store} {K : AV → Store → Prop} (ha : a = .mt ∨ a = .nils) (hx : rowsIn σ te.sz x = some ys) (h0 : 0 < te.sz) (hne : ys ≠ []) (hb : ys.length < 1073741824 ∧ te.by_ ≤ 65536)
    (hk : ∀ b c rest, fresh b σ → ys.length ≤ c → c * te.sz ≤ ys.length * te.sz + rest.length → K (.msl b 0 ys.length c) ((b, .own (ys.flatten ++ rest)) :: σ)) : appendWp true te a x σ K := by
  have hbb : ys.length * te.by_ ≤ 70368744177664 := Nat.le_trans (Nat.mul_le_mul (show ys.length ≤ 1073741824 by omega) hb.2) (by decide)
  rcases ha with rfl | rfl <;> unfold appendWp <;> rw [hx] <;> refine ⟨⟨h0, by omega, hbb⟩, fun e => absurd e hne, fun _ => ?_⟩ <;> exact hk
theorem splice_app {A rest c : List AV} {o : Nat} (h : o + c.length ≤ A.length) : splice (A ++ rest) o c = splice A o c ++ rest := by
  unfold splice
  rw [List.take_append_of_le_length (by omega), List.drop_append_of_le_length h]; simp only [List.append_assoc]
theorem splice_at {A B c : List AV} {n : Nat} (h : n = A.length) : splice (A ++ B) n c = A ++ splice B 0 c := by
  subst h
  unfold splice
  rw [List.take_left, ← List.drop_drop, List.drop_left]
  simp
theorem dj_of_nodup {σ τ : Store} (h : (keys (σ ++ τ)).Nodup) : Dj σ τ := fun p hp => fresh_of fun hk => by
  simp only [keys, List.map_append] at h hk
  exact (List.nodup_append.1 h).2.2 _ (List.mem_map.2 ⟨p, hp, rfl⟩) _ hk rfl
/-- The callee is given the part σ1 of the store; what it leaves lies apart from the rest. -/
theorem CallWp.frameD {P : Program} {gl : Globs} {f : FuncId} {args : List AV} {σ1 σ2 : Store} {K : AV → Store → Prop} (h : CallWp P gl f args σ1 fun r σ' => Dj σ' σ2 → K r (σ' ++ σ2)) : CallWp P gl f args (σ1 ++ σ2) K :=
  ⟨h.1, fun w M vs hI hr => (h.2 w M vs (hI.sub (List.sublist_append_left _ _)) hr).mono fun _ _ ⟨v, M', r, σ', h1, h2, h3, h4⟩ => by
    have hs := Stp.frame hI h3
    exact ⟨v, M', r, σ' ++ σ2, h1, h2 (dj_of_nodup hs.inv.nodup), hs, h4⟩⟩
theorem CallWp.frame0 {P : Program} {gl : Globs} {f : FuncId} {args : List AV} {σ2 : Store} {K : AV → Store → Prop} (h : CallWp P gl f args [] fun r σ' => Dj σ' σ2 → K r (σ' ++ σ2)) : CallWp P gl f args σ2 K := CallWp.frameD (σ1 := []) h
theorem Dj.head {b : Nat} {o : AObj} {τ σ : Store} (h : Dj ((b, o) :: τ) σ) : fresh b σ := h (b, o) (by simp)
theorem Dj.tail {b : Nat} {o : AObj} {τ σ : Store} (h : Dj ((b, o) :: τ) σ) : Dj τ σ := fun p hp => h p (by simp [hp])
theorem fresh_app {b : Nat} {τ σ : Store} (h : fresh b (τ ++ σ)) : fresh b τ ∧ fresh b σ := by
  induction τ with
  | nil => exact ⟨trivial, h⟩
  | cons p r ih =>
    obtain ⟨c, x⟩ := p
    simp only [List.cons_append, fresh] at h ⊢
    exact ⟨⟨h.1, (ih h.2).1⟩, (ih h.2).2⟩
theorem fresh_app_left {b : Nat} {τ σ : Store} (h : fresh b (τ ++ σ)) : fresh b τ := (fresh_app h).1
theorem fresh_app_right {b : Nat} {τ σ : Store} (h : fresh b (τ ++ σ)) : fresh b σ := (fresh_app h).2
/-- No entry of τ has the key b. -/
def Away (b : Nat) (τ : Store) : Prop := ∀ p ∈ τ, b ≠ p.1
theorem Away.of {b : Nat} {o : AObj} {τ σ : Store} (h : Dj τ σ) (hb : look σ b = some o) : Away b τ := fun p hp => fresh_ne (h p hp) hb
theorem Away.look {b : Nat} {τ σ : Store} (h : Away b τ) : look (τ ++ σ) b = look σ b := by
  induction τ with
  | nil => rfl
  | cons p r ih =>
    obtain ⟨c, x⟩ := p
    have : (b == c) = false := beq_false_of_ne (h (c, x) (by simp))
    simp only [List.cons_append, AX.look, this, cond_false]
    exact ih fun q hq => h q (by simp [hq])
theorem Away.set {b : Nat} {x : AObj} {τ σ : Store} (h : Away b τ) : setAt (τ ++ σ) b x = τ ++ setAt σ b x := by
  induction τ with
  | nil => rfl
  | cons p r ih =>
    obtain ⟨c, y⟩ := p
    have : (b == c) = false := beq_false_of_ne (h (c, y) (by simp))
    simp only [List.cons_append, setAt, this, cond_false]
    rw [ih fun q hq => h q (by simp [hq])]
theorem Away.del {b : Nat} {τ σ : Store} (h : Away b τ) : del (τ ++ σ) b = τ ++ del σ b := by
  induction τ with
  | nil => rfl
  | cons p r ih =>
    obtain ⟨c, y⟩ := p
    have : (b == c) = false := beq_false_of_ne (h (c, y) (by simp))
    simp only [List.cons_append, AX.del, this, cond_false]
    rw [ih fun q hq => h q (by simp [hq])]
theorem look_cons_ne {b c : Nat} {o : AObj} {σ : Store} (h : (b == c) = false) : look ((c, o) :: σ) b = look σ b := by simp [look, h]
/-- Appending, maybe nothing. -/
theorem Buf.appendL {sz xs out τ} (h : Buf sz xs out τ) {te : TyI} {x : AV} {ys : List (List AV)} {σ σ0 : Store} {K : AV → Store → Prop} (hσ : σ0 = τ ++ σ) (hsz : te.sz = sz) (hx : rowsIn σ0 sz x = some ys) (hry : Rows sz ys) (h0 : 0 < sz)
    (hb : xs.length + ys.length ≤ 70368744177664 ∧ (xs.length + ys.length) * te.by_ ≤ 70368744177664) (hk : ∀ out' τ', Buf sz (xs ++ ys) out' τ' → Dj τ' σ → K out' (τ' ++ σ)) : appendWp true te out x σ0 K := by
  subst hσ
  by_cases hy : ys = []
  · subst hy
    subst hsz
    rcases h with ⟨rfl, rfl | rfl, rfl⟩ | ⟨b, c, rest, rfl, rfl, h1, h2, h3⟩
    · unfold appendWp; rw [hx]
      exact ⟨⟨h0, by simp, by simp⟩, fun _ => hk _ [] (Buf.nil te.sz) (Dj.nil _), fun e => absurd rfl e⟩
    · unfold appendWp; rw [hx]
      exact ⟨⟨h0, by simp, by simp⟩, fun _ => hk _ [] (Buf.mt te.sz) (Dj.nil _), fun e => absurd rfl e⟩
    · unfold appendWp; rw [hx]
      simp only [List.cons_append, List.nil_append, look, BEq.rfl, cond_true, del]
      refine ⟨⟨h0, h1, by rw [List.length_append, h3.len]; omega, hb⟩, fun b' c' rest' hf g1 g2 g3 => ?_⟩
      have e1 : List.take (xs.length * te.sz) (xs.flatten ++ rest) = xs.flatten := by rw [← h3.len, List.take_left]
      rw [e1]
      have := hk (.msl b' 0 (xs ++ []).length c') [(b', .own ((xs ++ []).flatten ++ rest'))] (.inr ⟨b', c', rest', rfl, rfl, by simpa using g1, by simpa using g3, by simpa using h3⟩) (Dj.one hf)
      simpa using this
  · exact h.append hsz hx hy hry h0 hb hk
theorem reps_flat {α : Type} (l : List α) : ∀ n, reps n l = (List.replicate n l).flatten
  | 0 => rfl
  | n + 1 => by simp only [reps, reps_flat l n, List.replicate_succ, List.flatten_cons]
theorem own_read_app {α : Type} {f : α → AV} {l : List α} {rest : List AV} {i : Nat} {x : α} (h : l[i]? = some x) : ((l.map f ++ rest).drop i).take 1 = [f x] := by
  have hlt : i < l.length := (List.getElem?_eq_some_iff.1 h).1
  rw [List.drop_append_of_le_length (by simp; omega), List.take_append_of_le_length (by simp; omega), own_read h]
theorem own_write_app {α : Type} {f : α → AV} {l : List α} {rest : List AV} {i : Nat} {y : α} (h : i < l.length) : splice (l.map f ++ rest) i [f y] = (l.set i y).map f ++ rest := by
  rw [splice_app (by simp; omega), own_write h]
def bA (c : UInt8) : AV := .byte c.toNat
def eC (c : UInt8) : List AV := [bA c]
@[go_sem] theorem co_bA {c : UInt8} : cellsOf (bA c) = some [bA c] := rfl
theorem flat_eC (l : List UInt8) : (l.map eC).flatten = l.map bA := by
  induction l with
  | nil => rfl
  | cons x l ih => simp only [List.map_cons, List.flatten_cons, ih]; rfl
theorem rows_eC (l : List UInt8) : Rows 1 (l.map eC) := Rows.map (f := eC) (fun _ => rfl) l
/-- Bytes of a slice that grew to a string. -/
theorem Buf.str {P : Program} {bs : List UInt8} {out : AV} {τ σ σ0 : Store} (h : Buf 1 (bs.map eC) out τ) (hσ : σ0 = τ ++ σ) {e : TypeId} (hu : isU8 P e) {K : AV → Prop} (hk : K (.str bs)) : convR P (.slice e) .str σ0 out K := by
  subst hσ
  rcases h with ⟨h0, rfl | rfl, rfl⟩ | ⟨b, c, rest, rfl, rfl, h1, h2, h3⟩
  · have : bs = [] := List.map_eq_nil_iff.1 h0
    subst this
    exact ⟨hu, hk⟩
  · have : bs = [] := List.map_eq_nil_iff.1 h0
    subst this
    exact ⟨hu, hk⟩
  · rw [flat_eC, List.length_map, List.singleton_append, cv_own, look_hd]
    refine ⟨hu, by simp, bs, ?_, hk⟩
    rw [List.drop_zero, List.take_append_of_le_length (by simp), List.take_of_length_le (by simp)]
    rfl
theorem Acc.index {P : Program} {sz : Nat} {xs : List (List AV)} {out : AV} {τ : Store} (h : Acc sz xs out τ) {e : TypeId} {ti te : TyI} (hs : ti.ty = .slice e) (hte : TI P e = some te) (hsz : te.sz = sz) {k : IntKind} {n : Int} (hn : 0 ≤ n) {x : List AV} (hx : xs[n.toNat]? = some x) {K : AV → Prop} (hk : K (.cptr x)) : indexWp P ti out (.raw (.int k n)) K := by
  rcases h with ⟨rfl, _⟩ | ⟨b, rfl, rfl⟩
  · simp at hx
  · unfold indexWp
    simp only [hs, hte]
    exact ⟨hsz.symm, hn, x, hx, hk⟩
/-- A cell of an own block read in another way. -/
theorem Turn.see {gl : Globs} {σ : Store} {b : Nat} {cs cs' : List AV} (hs : SeesAll gl ((b, .own cs) :: σ) cs cs') : Turn gl ((b, .own cs) :: σ) ((b, .own cs') :: σ) := fun w M hI => by
  refine ⟨M, ⟨⟨.refl w M, rfl, rfl, rfl, Nat.le_refl _, fun _ _ _ => ⟨rfl, rfl⟩⟩, ⟨fun p hp => ?_, hI.nodup, hI.wf, hI.glob⟩, fun k hk => .inl hk⟩⟩
  rcases List.mem_cons.1 hp with rfl | hp
  · obtain ⟨c, e, h1, h2, h3, h4⟩ := hI.objs (b, .own cs) (by simp)
    exact ⟨c, e, h1, h2, hs.rep hI h3, h4⟩
  · exact hI.objs p (by simp [hp])
theorem Away.fresh {b : Nat} : ∀ {τ : Store}, Away b τ → AX.fresh b τ
  | [], _ => trivial
  | (c, x) :: r, h => by
    have := h (c, x) (by simp)
    exact ⟨⟨this, fun e => this e.symm⟩, Away.fresh (τ := r) fun p hp => h p (by simp [hp])⟩
theorem Away.of_fresh {b : Nat} : ∀ {τ : Store}, AX.fresh b τ → Away b τ
  | [], _ => fun p hp => by cases hp
  | (c, x) :: r, h => fun p hp => by
    rcases List.mem_cons.1 hp with rfl | hp
    · exact h.1.1
    · exact Away.of_fresh h.2 p hp
theorem Dj.away {b : Nat} {o : AObj} {τ σ : Store} (h : Dj τ σ) (hm : (b, o) ∈ σ) : Away b τ := fun p hp => (Away.of_fresh (h p hp) (b, o) hm).symm
theorem GhAll.of_turn {gl : Globs} {τ τ' : Store} {as' bs : List AV} (h : Turn gl τ τ') (hs : SeesAll gl τ' as' bs) : GhAll gl τ as' bs := fun w M vs hI hr => by
  obtain ⟨M1, s1⟩ := h w M hI
  exact ⟨M1, s1.sub (List.nil_sublist _), hs.rep s1.inv (repAll.keep s1.ext.keeps _ _ hr)⟩
def fixO : Nat × AObj → Nat × AObj
  | (b, .own cs) => (b, .fixd cs)
  | p => p
theorem Turn.fix1 {gl : Globs} {pre post : Store} {b : Nat} {cs : List AV} : Turn gl (pre ++ (b, .own cs) :: post) (pre ++ (b, .fixd cs) :: post) := by
  refine Turn.trans (Turn.perm (τ := (b, .own cs) :: (pre ++ post)) List.perm_middle.symm) (Turn.trans (b := (b, .fixd cs) :: (pre ++ post)) (fun w M hI => ?_) (Turn.perm List.perm_middle))
  obtain ⟨M', s⟩ := Stp.fix hI (b := b) (cs := cs) look_hd
  refine ⟨M', ?_⟩
  simpa [setAt] using s
theorem Turn.fixAll {gl : Globs} : ∀ (σ pre : Store), Turn gl (pre ++ σ) (pre ++ σ.map fixO)
  | [], pre => by simpa using Turn.refl _
  | (b, .own cs) :: r, pre => by
    have h := Turn.fixAll (gl := gl) r (pre ++ [(b, .fixd cs)])
    simp only [List.append_assoc, List.singleton_append] at h
    exact Turn.fix1.trans h
  | (b, .fixd cs) :: r, pre => by
    have h := Turn.fixAll (gl := gl) r (pre ++ [(b, .fixd cs)])
    simp only [List.append_assoc, List.singleton_append] at h
    exact h
  | (b, .tail n) :: r, pre => by
    have h := Turn.fixAll (gl := gl) r (pre ++ [(b, .tail n)])
    simp only [List.append_assoc, List.singleton_append] at h
    exact h
theorem Turn.fix {gl : Globs} (σ : Store) : Turn gl σ (σ.map fixO) := Turn.fixAll σ []
theorem Sees.fixd {gl : Globs} {σ : Store} {b : Nat} {cs : List AV} (h : look σ b = some (.fixd cs)) : Sees gl σ (.ptr b 0) (.cptr cs) := fun w M v hI hr => by
  simp only [rep] at hr ⊢
  exact ⟨b, 0, hr, (hI.objs _ (look_mem h)).1⟩
theorem Sees.clos {gl : Globs} {σ : Store} {fn : Fn} {fs gs cs ds : List AV} (h : SeesAll gl σ fs gs) (k : SeesAll gl σ cs ds) : Sees gl σ (.clos fn fs cs) (.clos fn gs ds) := fun w M v hI hr => by
  simp only [rep] at hr ⊢
  obtain ⟨us, vs, h1, h2, h3⟩ := hr
  exact ⟨us, vs, h1, h.rep hI h2, k.rep hI h3⟩
theorem Sees.cptr {gl : Globs} {σ : Store} {xs ys : List AV} (h : SeesAll gl σ xs ys) : Sees gl σ (.cptr xs) (.cptr ys) := fun w M v hI hr => by
  simp only [rep] at hr ⊢
  obtain ⟨b, o, h1, h2⟩ := hr
  exact ⟨b, o, h1, repCells_sees hI h h2⟩
theorem Sees.list1 {gl : Globs} {σ : Store} {x y : AV} (h : Sees gl σ x y) : Sees gl σ (.list 1 [[x]]) (.list 1 [[y]]) := fun w M v hI hr => by
  simp only [rep] at hr ⊢
  obtain ⟨A, cap, h1, h2, h3⟩ := hr
  refine ⟨A, cap, h1, h2, .inr ?_⟩
  rcases h3 with h3 | ⟨b, o, h4, h5⟩
  · simp at h3
  · refine ⟨b, o, h4, ?_⟩
    simp only [repRows, List.length_cons, List.length_nil, true_and] at h5 ⊢
    exact ⟨repCells_sees hI (as := [x]) (bs := [y]) ⟨h, trivial⟩ h5.1, h5.2⟩
/-- A slice of numbers of the call's own. -/
theorem Buf.ints {L : List Int} {out : AV} {τ : Store} (h : Buf 1 (L.map eI) out τ) (h0 : L ≠ []) : ∃ b c rest, out = .msl b 0 L.length c ∧ τ = [(b, .own (L.map AV.int ++ rest))] ∧ L.length ≤ c ∧ c ≤ L.length + rest.length := by
  rcases h with ⟨h1, _⟩ | ⟨b, c, rest, h1, h2, h3, h4, _⟩
  · exact absurd (List.map_eq_nil_iff.1 h1) h0
  · rw [flat_ints] at h2
    exact ⟨b, c, rest, by simpa using h1, h2, by simpa using h3, by simpa using h4⟩
theorem Buf.of_ints {L : List Int} {b c n : Nat} {rest : List AV} (hn : n = L.length) (h1 : L.length ≤ c) (h2 : c ≤ L.length + rest.length) : Buf 1 (L.map eI) (.msl b 0 n c) [(b, .own (L.map AV.int ++ rest))] := by
  subst hn
  exact .inr ⟨b, c, rest, by simp, by rw [flat_ints], by simpa using h1, by simpa using h2, rows_eI L⟩
section
variable {P : Program} {gl : Globs} {cf : Cfg} {ρ : Env} {σ : Store} {K : Exit → Env → Store → Prop}
theorem DrawK.recast {id : Nat} {ops : Array Oper} (τ : Store) (ρ2 : Env) (hr : Recast gl σ ρ τ ρ2) (h : DrawK P gl cf id ops ρ2 τ K) : DrawK P gl cf id ops ρ σ K := by
  intro w M a hI hF
  obtain ⟨M0, s0, r0⟩ := hr w M _ hI hF.1
  exact wp_mono (h w M0 a s0.inv ⟨r0, hF.2⟩) fun e a2 w2 ⟨ρ', σ', M', h4, h5, h6⟩ => ⟨ρ', σ', M', h4, s0.trans h5, h6⟩
theorem Recast.fixd {σ : Store} {ρ : Env} {k b : Nat} {cs cs' : List AV} (ha : get ρ k = .ptr b 0) (hl : look σ b = some (.fixd cs)) (h : SeesAll gl σ cs cs') : Recast gl σ ρ σ ((k, .cptr cs') :: ρ) := Recast.sees ha ((Sees.fixd hl).trans (Sees.cptr h))
theorem seesAll_rfl {σ : Store} : ∀ l : List AV, SeesAll gl σ l l
  | [] => trivial
  | a :: r => ⟨Sees.refl _, seesAll_rfl r⟩
theorem Recast.drop (σ : Store) (ρ : Env) : Recast gl σ ρ [] ρ := Recast.turn (Turn.sub (List.nil_sublist _))
theorem Recast.fix (σ : Store) (ρ : Env) : Recast gl σ ρ (σ.map fixO) ρ := Recast.turn (Turn.fix σ)
end
end Go.AX
end
section
/- Own blocks whose rows point at own blocks. -/
namespace Go.AX
open Go AG
theorem fill_set {α : Type} (rows : List α) (z y : α) (k : Nat) : (rows ++ List.replicate (k + 1) z).set rows.length y = (rows ++ [y]) ++ List.replicate k z := by
  rw [List.replicate_succ, List.set_append_right _ _ (Nat.le_refl _), Nat.sub_self, List.set_cons_zero]; simp
theorem take_fill {α : Type} {es : List α} {z e : α} {i : Nat} (h : es[i]? = some e) : (es.take i ++ List.replicate (es.length - i) z).set i e = es.take (i + 1) ++ List.replicate (es.length - (i + 1)) z := by
  have hlt : i < es.length := (List.getElem?_eq_some_iff.1 h).1
  have hl : (es.take i).length = i := by simp; omega
  have e1 : es.length - i = (es.length - (i + 1)) + 1 := by omega
  have := fill_set (es.take i) z e (es.length - (i + 1))
  rw [hl] at this
  rw [e1, this, List.take_add_one, h]; rfl
structure Nest {α ρ : Type} (Q : α → ρ → Store → Prop) (xs : List α) (rows : List ρ) (Ts : List Store) : Prop where
  len1 : rows.length = xs.length
  len2 : Ts.length = xs.length
  at_ : ∀ (i : Nat) x, xs[i]? = some x → ∃ r τ, rows[i]? = some r ∧ Ts[i]? = some τ ∧ Q x r τ
section
variable {α ρ : Type} {Q : α → ρ → Store → Prop} {xs : List α} {rows : List ρ} {Ts : List Store}
theorem Nest.nil : Nest Q [] [] [] := ⟨rfl, rfl, fun i x h => by simp at h⟩
theorem Nest.snoc (h : Nest Q xs rows Ts) {x : α} {r : ρ} {τ : Store} (hq : Q x r τ) : Nest Q (xs ++ [x]) (rows ++ [r]) (Ts ++ [τ]) := by
  refine ⟨by simp [h.len1], by simp [h.len2], fun i y hy => ?_⟩
  by_cases hi : i < xs.length
  · rw [List.getElem?_append_left hi] at hy
    obtain ⟨r', τ', h1, h2, h3⟩ := h.at_ i y hy
    exact ⟨r', τ', by rw [List.getElem?_append_left (by rw [h.len1]; exact hi)]; exact h1, by rw [List.getElem?_append_left (by rw [h.len2]; exact hi)]; exact h2, h3⟩
  · have hi2 : i = xs.length := by
      have := (List.getElem?_eq_some_iff.1 hy).1
      simp at this; omega
    subst hi2
    simp at hy
    subst hy
    exact ⟨r, τ, by rw [← h.len1]; simp, by rw [← h.len2]; simp, hq⟩
theorem Nest.set (h : Nest Q xs rows Ts) {i : Nat} {x : α} {r : ρ} {τ : Store} (hx : xs[i]? = some x) (hq : Q x r τ) : Nest Q xs (rows.set i r) (Ts.set i τ) := by
  have hlt : i < xs.length := (List.getElem?_eq_some_iff.1 hx).1
  refine ⟨by simp [h.len1], by simp [h.len2], fun j y hy => ?_⟩
  by_cases hij : i = j
  · subst hij
    rw [hx] at hy; cases hy
    exact ⟨r, τ, by rw [List.getElem?_set, if_pos rfl, if_pos (by rw [h.len1]; exact hlt)], by rw [List.getElem?_set, if_pos rfl, if_pos (by rw [h.len2]; exact hlt)], hq⟩
  · obtain ⟨r', τ', h1, h2, h3⟩ := h.at_ j y hy
    exact ⟨r', τ', by rw [List.getElem?_set, if_neg hij]; exact h1, by rw [List.getElem?_set, if_neg hij]; exact h2, h3⟩
theorem Nest.mono {Q' : α → ρ → Store → Prop} (h : Nest Q xs rows Ts) (k : ∀ x ∈ xs, ∀ r τ, Q x r τ → Q' x r τ) : Nest Q' xs rows Ts :=
  ⟨h.len1, h.len2, fun i x hx => by
    obtain ⟨r, τ, h1, h2, h3⟩ := h.at_ i x hx
    exact ⟨r, τ, h1, h2, k x (List.mem_of_getElem? hx) r τ h3⟩⟩
theorem Nest.gh {gl : Globs} {f : ρ → List AV} {g : α → List AV} (hq : ∀ x r τ, Q x r τ → GhAll gl τ (f r) (g x)) : ∀ {xs : List α} {rows : List ρ} {Ts : List Store}, Nest Q xs rows Ts → GhAll gl Ts.flatten (rows.map f).flatten (xs.map g).flatten
  | [], rows, Ts, h => by
    have h1 : rows = [] := List.length_eq_zero_iff.1 h.len1
    have h2 : Ts = [] := List.length_eq_zero_iff.1 h.len2
    subst h1 h2
    exact GhAll.nil
  | x :: xs, rows, Ts, h => by
    obtain ⟨r, τ, h1, h2, h3⟩ := h.at_ 0 x rfl
    cases rows with
    | nil => simp at h1
    | cons r' rows =>
      cases Ts with
      | nil => simp at h2
      | cons τ' Ts =>
        simp only [List.getElem?_cons_zero, Option.some.injEq] at h1 h2
        subst h1 h2
        simp only [List.map_cons, List.flatten_cons]
        refine GhAll.app (hq _ _ _ h3) (Nest.gh hq ⟨by simpa using h.len1, by simpa using h.len2, fun i y hy => ?_⟩)
        have := h.at_ (i + 1) y (by simpa using hy)
        simpa using this
theorem Nest.perm {i : Nat} {τ : Store} (h : Ts[i]? = some τ) (τ' : Store) : Ts.flatten.Perm (τ ++ ((Ts.take i).flatten ++ (Ts.drop (i + 1)).flatten)) ∧ (τ' ++ ((Ts.take i).flatten ++ (Ts.drop (i + 1)).flatten)).Perm (Ts.set i τ').flatten := by
  have hlt : i < Ts.length := (List.getElem?_eq_some_iff.1 h).1
  have hx : Ts[i] = τ := (List.getElem?_eq_some_iff.1 h).2
  have e1 : Ts = Ts.take i ++ τ :: Ts.drop (i + 1) := by rw [← hx, ← List.drop_eq_getElem_cons hlt, List.take_append_drop]
  constructor
  · have e2 : Ts.flatten = (Ts.take i).flatten ++ (τ ++ (Ts.drop (i + 1)).flatten) := by
      have := congrArg List.flatten e1
      rw [List.flatten_append, List.flatten_cons] at this
      exact this
    rw [e2, ← List.append_assoc, ← List.append_assoc]
    exact List.Perm.append_right _ List.perm_append_comm
  · rw [List.set_eq_take_append_cons_drop, if_pos hlt, List.flatten_append, List.flatten_cons, ← List.append_assoc, ← List.append_assoc]
    exact List.Perm.append_right _ List.perm_append_comm
end
def r3 (x : AV × AV × AV) : List AV := [x.1, x.2.1, x.2.2]
/-- The rows of a list of systems of the call's own. -/
def QSy (s : Ts) (r : AV × AV × AV) (τ : Store) : Prop := r.1 = .int s.al ∧ r.2.1 = .int s.st ∧ Buf 3 (s.ed.map eE) r.2.2 τ
def QIs (l : List Int) (r : AV) (τ : Store) : Prop := Buf 1 (l.map eI) r τ
theorem QSy.gh {gl : Globs} (s : Ts) (r : AV × AV × AV) (τ : Store) (h : QSy s r τ) : GhAll gl τ (r3 r) (eS s) := by
  obtain ⟨a, b, c⟩ := r
  obtain ⟨h1, h2, h3⟩ := h
  simp only at h1 h2
  subst h1 h2
  have := Gh.cons (Gh.of (gl := gl) (Sees.refl (.int s.al))) (Gh.cons (Gh.of (Sees.refl (.int s.st))) h3.gh.all)
  exact this
theorem QIs.gh {gl : Globs} (l : List Int) (r : AV) (τ : Store) (h : QIs l r τ) : GhAll gl τ [r] (eL l) := (Buf.gh (gl := gl) h).all
theorem Nest.systems {gl : Globs} {l : List Ts} {rows : List (AV × AV × AV)} {Ts : List Store} {b n : Nat} (hn : n = l.length) (h : Nest QSy l rows Ts) : Gh gl ((b, .own (rows.map r3).flatten) :: Ts.flatten) (.msl b 0 n n) [] (systems l) := by
  subst hn
  have := Gh.slice (b := b) (n := l.length) (c := l.length) (sz := 3) (h.gh (gl := gl) QSy.gh) (Nat.le_refl _) (by rw [(rows_eS l).len]; simp)
  have e := rowsOf_app [] (rows_eS l)
  rw [List.length_map, List.append_nil] at e
  rw [e] at this
  exact this
theorem Nest.intss {gl : Globs} {l : List (List Int)} {rows : List AV} {Ts : List Store} {b n : Nat} (hn : n = l.length) (h : Nest QIs l rows Ts) : Gh gl ((b, .own rows) :: Ts.flatten) (.msl b 0 n n) [] (intss l) := by
  subst hn
  have hr : rows = (rows.map fun r => [r]).flatten := by
    have : ∀ q : List AV, (q.map fun r => [r]).flatten = q := fun q => by induction q with
      | nil => rfl
      | cons a q ih => simp [ih]
    exact (this rows).symm
  have hR : Rows 1 (l.map eL) := Rows.map (f := eL) (fun _ => rfl) l
  have := Gh.slice (b := b) (n := l.length) (c := l.length) (sz := 1) (h.gh (gl := gl) (f := fun r => [r]) (g := eL) QIs.gh) (Nat.le_refl _) (by rw [hR.len]; simp)
  have e := rowsOf_app [] hR
  rw [List.length_map, List.append_nil] at e
  rw [e, ← hr] at this
  exact this
end Go.AX
end
section
/- From a reading of plain data to an abstract value. -/
namespace Go.AX
open Go AG
def full (w : World) : Marks := fun b => match w.heap[b]? with
  | some (.cells c _ _) => c.size
  | _ => 0
theorem full_lt {w : World} {a : Addr} {v : Value} (h : w.cell? a = some v) : a.off < full w a.block ∧ a = ⟨a.block, a.off, none⟩ := by
  unfold World.cell? at h
  unfold full
  split at h
  · rename_i c e f hh
    rw [hh]
    split at h
    · cases h
    · rename_i hs
      refine ⟨(Array.getElem?_eq_some_iff.1 h).1, ?_⟩
      obtain ⟨b, o, s⟩ := a
      cases s with
      | none => rfl
      | some k => simp at hs
  · cases h
theorem full_wf (w : World) (b : Nat) : full w b = 0 ∨ ∃ c e f, w.heap[b]? = some (.cells c e f) ∧ full w b ≤ c.size := by
  unfold full
  split
  · rename_i c e f hh
    exact .inr ⟨c, e, f, hh, Nat.le_refl _⟩
  · exact .inl rfl
theorem repCells_of {w : World} {b : Nat} : ∀ {xs : List AV} {cs : List Value} {o : Nat}, (∀ i, i < cs.length → w.cell? ⟨b, o + i, none⟩ = cs[i]?) → repAll w (full w) xs cs → (∀ v ∈ cs, v.oneCell' = true) → repCells w (full w) b o xs
  | [], cs, o, _, _, _ => by simp only [repCells]
  | x :: xs, cs, o, hc, h, h1 => by
    simp only [repAll] at h
    obtain ⟨v, t, rfl, hv, ht⟩ := h
    simp only [repCells]
    have h0 : w.cell? ⟨b, o, none⟩ = some v := by have := hc 0 (by simp); simpa using this
    refine ⟨⟨(full_lt h0).1, v, h0, h1 v (by simp), hv⟩, repCells_of (fun i hi => ?_) ht fun u hu => h1 u (by simp [hu])⟩
    have := hc (i + 1) (by simpa using hi)
    rw [show o + 1 + i = o + (i + 1) by omega, this]
    simp
theorem build {α : Type} {Q : Nat → α → Prop} : ∀ {n : Nat}, (∀ i, i < n → ∃ y, Q i y) → ∃ l : List α, l.length = n ∧ ∀ i y, l[i]? = some y → Q i y
  | 0, _ => ⟨[], rfl, fun i y h => by simp at h⟩
  | n + 1, h => by
    obtain ⟨l, h1, h2⟩ := build (n := n) fun i hi => h i (by omega)
    obtain ⟨y, hy⟩ := h n (by omega)
    refine ⟨l ++ [y], by simp [h1], fun i z hz => ?_⟩
    by_cases hi : i < l.length
    · rw [List.getElem?_append_left hi] at hz; exact h2 i z hz
    · have : i = l.length := by have := (List.getElem?_eq_some_iff.1 hz).1; simp at this; omega
      subst this
      simp at hz
      subst hz
      rw [h1]; exact hy
section
variable {H : Type} {enc : TypeId × Value → H} {P : Program} {w : World} {base : Nat} {sp : Nat → Bool} {held : Bool}
theorem add_none (b o n : Nat) : (⟨b, o, none⟩ : Addr).add n = ⟨b, o + n, none⟩ := by
  unfold Addr.add
  split <;> simp_all
theorem rd_slice {α : Type} {t e : TypeId} (ht : P.underlying t = some (.slice e)) {sz : Nat} (hsz : P.cellsOf e = sz) (hz : 0 < sz) (f : α → List AV) (G : α → Prop) (hf : ∀ x, (f x).length = sz)
    (E : ∀ n cs x, DataW.trod enc P w base sp held n e cs = some x → ∃ y : α, repAll w (full w) (f y) cs ∧ (∀ v ∈ cs, v.oneCell' = true) ∧ G y) {fuel : Nat} {cs : List Value} {x : DataW H × List MemPlace} (h : DataW.trod enc P w base sp held fuel t cs = some x) :
    ∃ (l : List α) (v : Value), cs = [v] ∧ v.oneCell' = true ∧ rep w (full w) (.list sz (l.map f)) v ∧ l.length ≤ maxLen ∧ ∀ y ∈ l, G y := by
  rcases Deep.open_slice ht h with ⟨rfl, _⟩ | ⟨a, len, cap, m, n, D, Pl, rfl, hb, hl, hm, hmm, _, hel⟩
  · refine ⟨[], _, rfl, rfl, ?_, by simp, by simp⟩
    simp only [rep]
    exact ⟨none, 0, rfl, Nat.le_refl _, .inl rfl⟩
  · have hlm : len ≤ m := by rw [hmm]; split <;> omega
    have hspot : 0 < len → a.spot = none := fun h0 => by
      obtain ⟨cs', hc, hd⟩ := hel 0 (by omega)
      rw [hsz] at hc
      obtain ⟨_, hlen, hget⟩ := World.cells?_some hc
      have h0 := hget 0 hz
      have : (0 : Nat) < cs'.length := by omega
      rw [List.getElem?_eq_getElem this] at h0
      have := (full_lt h0).2
      have := congrArg Addr.spot this
      simpa [Addr.add] using this
    obtain ⟨l, h1, h2⟩ := build (n := len) (Q := fun i y => repCells w (full w) a.block (a.off + i * sz) (f y) ∧ a.spot = none ∧ G y) fun i hi => by
      obtain ⟨cs', hc, hd⟩ := hel i (by omega)
      obtain ⟨y, g1, g2, g3⟩ := E _ _ _ hd
      rw [hsz] at hc
      obtain ⟨_, hlen, hget⟩ := World.cells?_some hc
      have hsp := hspot (by omega)
      refine ⟨y, repCells_of (fun j hj => ?_) g1 g2, hsp, g3⟩
      have := hget j (by omega)
      rw [← this]
      obtain ⟨ab, ao, as⟩ := a
      simp only at hsp
      subst hsp
      rw [add_none, add_none]
    refine ⟨l, _, rfl, rfl, ?_, by omega, fun y hy => ?_⟩
    · simp only [rep]
      refine ⟨some a, cap, by rw [List.length_map, h1], by rw [List.length_map, h1]; exact hl, ?_⟩
      by_cases hln : l = []
      · exact .inl (by rw [hln]; rfl)
      · right
        obtain ⟨y0, hy0⟩ : ∃ y0, l[0]? = some y0 := ⟨_, List.getElem?_eq_getElem (by have := List.length_pos_iff.2 hln; omega)⟩
        have hs := (h2 0 y0 hy0).2.1
        refine ⟨a.block, a.off, ?_, repRows_of_get fun i e he => ?_⟩
        · obtain ⟨ab, ao, as⟩ := a
          simp only at hs
          rw [hs]
        · rw [List.getElem?_map] at he
          cases hi : l[i]? with
          | none => rw [hi] at he; simp at he
          | some y =>
            rw [hi] at he
            simp only [Option.map_some, Option.some.injEq] at he
            subst he
            exact ⟨hf y, (h2 i y hi).1⟩
    · obtain ⟨i, hi⟩ := List.mem_iff_getElem?.1 hy
      exact (h2 i y hi).2.2
theorem rd_struct3 {t : TypeId} {f0 f1 f2 : Field} (ht : P.underlying t = some (.struct #[f0, f1, f2])) (hc : P.cellsOf t = 3) (h0 : f0.offset = 0 ∧ P.cellsOf f0.type = 1) (h1 : f1.offset = 1 ∧ P.cellsOf f1.type = 1) (h2 : f2.offset = 2 ∧ P.cellsOf f2.type = 1)
    {fuel : Nat} {cs : List Value} {x : DataW H × List MemPlace} (h : DataW.trod enc P w base sp held fuel t cs = some x) :
    ∃ c0 c1 c2 n x0 x1 x2, cs = [c0, c1, c2] ∧ DataW.trod enc P w base sp held n f0.type [c0] = some x0 ∧ DataW.trod enc P w base sp held n f1.type [c1] = some x1 ∧ DataW.trod enc P w base sp held n f2.type [c2] = some x2 := by
  obtain ⟨xs, n, _, _, hl, hx, hf⟩ := DataW.trod_struct ht h
  rw [hc] at hl
  match cs, hl with
  | [c0, c1, c2], _ =>
    have hx' : xs.length = 3 := hx
    match xs, hx' with
    | [x0, x1, x2], _ =>
      have e0 := hf 0 f0 rfl
      have e1 := hf 1 f1 rfl
      have e2 := hf 2 f2 rfl
      rw [h0.1, h0.2] at e0
      rw [h1.1, h1.2] at e1
      rw [h2.1, h2.2] at e2
      exact ⟨c0, c1, c2, n, x0, x1, x2, rfl, by simpa using e0, by simpa using e1, by simpa using e2⟩
theorem rd_int {t : TypeId} (ht : P.underlying t = some (.int .i64)) {fuel : Nat} {cs : List Value} {x : DataW H × List MemPlace} (h : DataW.trod enc P w base sp held fuel t cs = some x) : ∃ n : Int, cs = [.int .i64 n] := by
  obtain ⟨n, h1, _⟩ := DataW.trod_int ht h
  exact ⟨n, h1⟩
theorem rd_bool {t : TypeId} (ht : P.underlying t = some .bool) {fuel : Nat} {cs : List Value} {x : DataW H × List MemPlace} (h : DataW.trod enc P w base sp held fuel t cs = some x) : ∃ b, cs = [.bool b] := by
  obtain ⟨n, h1, _⟩ := DataW.trod_bool ht h
  exact ⟨n, h1⟩
theorem repAll1 {w : World} {M : Marks} {a : AV} {v : Value} (h : rep w M a v) : repAll w M [a] [v] := by
  simp only [repAll]
  exact ⟨v, [], rfl, h, rfl⟩
theorem repAll2 {w : World} {M : Marks} {a : AV} {v : Value} {as : List AV} {vs : List Value} (h : rep w M a v) (k : repAll w M as vs) : repAll w M (a :: as) (v :: vs) := by
  simp only [repAll]
  exact ⟨v, vs, rfl, h, k⟩
end
end Go.AX
end
