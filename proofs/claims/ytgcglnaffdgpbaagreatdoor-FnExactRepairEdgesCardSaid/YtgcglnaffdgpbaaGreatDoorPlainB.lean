/- Plain Lean, no program in sight: what the law and the functions under it compute. -/
import Derived.Test.YtgcglnaffdgpbaaGreatDoorPlainA
import Derived.Lib.TrailingZeros
section
/- Orders of edges, search by halves, sets of small numbers and the moves of a system, as plain Lean. -/
namespace AG
open Go
def cmpI (x y : Int) : Int := if x < y then -1 else if y < x then 1 else 0
def orI : List Int → Int
  | [] => 0
  | x :: r => if x ≠ 0 then x else orI r
def edCmp (e f : Ed) : Int := orI [cmpI e.fr f.fr, cmpI e.le f.le, cmpI e.to f.to]
theorem cmpI_cases (x y : Int) : (x < y ∧ cmpI x y = -1) ∨ (x = y ∧ cmpI x y = 0) ∨ (y < x ∧ cmpI x y = 1) := by
  unfold cmpI
  rcases Int.lt_trichotomy x y with h | h | h
  · exact .inl ⟨h, by simp [h]⟩
  · subst h; exact .inr (.inl ⟨rfl, by simp⟩)
  · exact .inr (.inr ⟨h, by rw [if_neg (by omega), if_pos h]⟩)
theorem edCmp_neg (e f : Ed) : edCmp e f < 0 ↔ edLt e f = true := by
  rw [edLt_iff]
  unfold edCmp
  simp only [orI]
  rcases cmpI_cases e.fr f.fr with ⟨h1, h2⟩ | ⟨h1, h2⟩ | ⟨h1, h2⟩ <;> rw [h2] <;> simp <;>
  rcases cmpI_cases e.le f.le with ⟨h3, h4⟩ | ⟨h3, h4⟩ | ⟨h3, h4⟩ <;> (try rw [h4]) <;> (try simp) <;>
  rcases cmpI_cases e.to f.to with ⟨h5, h6⟩ | ⟨h5, h6⟩ | ⟨h5, h6⟩ <;> (try rw [h6]) <;> (try simp) <;> (try omega)
theorem edCmp_zero (e f : Ed) : edCmp e f = 0 ↔ e = f := by
  have he : e = f ↔ e.fr = f.fr ∧ e.le = f.le ∧ e.to = f.to := by cases e; cases f; simp
  rw [he]
  unfold edCmp
  simp only [orI]
  rcases cmpI_cases e.fr f.fr with ⟨h1, h2⟩ | ⟨h1, h2⟩ | ⟨h1, h2⟩ <;> rw [h2] <;> simp <;>
  rcases cmpI_cases e.le f.le with ⟨h3, h4⟩ | ⟨h3, h4⟩ | ⟨h3, h4⟩ <;> (try rw [h4]) <;> (try simp) <;>
  rcases cmpI_cases e.to f.to with ⟨h5, h6⟩ | ⟨h5, h6⟩ | ⟨h5, h6⟩ <;> (try rw [h6]) <;> (try simp) <;> (try omega)
theorem edCmp_range (e f : Ed) : -1 ≤ edCmp e f ∧ edCmp e f ≤ 1 := by
  unfold edCmp
  simp only [orI]
  rcases cmpI_cases e.fr f.fr with ⟨h1, h2⟩ | ⟨h1, h2⟩ | ⟨h1, h2⟩ <;> rw [h2] <;> simp <;>
  rcases cmpI_cases e.le f.le with ⟨h3, h4⟩ | ⟨h3, h4⟩ | ⟨h3, h4⟩ <;> (try rw [h4]) <;> (try simp) <;>
  rcases cmpI_cases e.to f.to with ⟨h5, h6⟩ | ⟨h5, h6⟩ | ⟨h5, h6⟩ <;> (try rw [h6]) <;> (try simp)
/-- The impl's test of an edge and the one before it. -/
theorem edOk_impl {al st : Int} {e : Ed} : edOk al st e = (decide (0 ≤ e.fr ∧ e.fr < st) && decide (0 ≤ e.to ∧ e.to < st) && !decide (6 ≤ e.le) && hasL al e.le) := by
  rw [Bool.eq_iff_iff]
  unfold edOk hasL
  simp only [Bool.and_eq_true, decide_eq_true_eq, Bool.not_eq_true', decide_eq_false_iff_not]
  omega
/-! ### Search by halves -/
def bsLo (l : List Ed) (e : Ed) : Nat → Nat → Nat → Nat
  | 0, i, _ => i
  | f + 1, i, j => if i < j then (match l[(i + j) / 2]? with
    | some x => if edCmp x e < 0 then bsLo l e f ((i + j) / 2 + 1) j else bsLo l e f i ((i + j) / 2)
    | none => i) else i
def bsAt (l : List Ed) (e : Ed) : Nat := bsLo l e l.length 0 l.length
def bsOk (l : List Ed) (e : Ed) : Bool := match l[bsAt l e]? with | some x => decide (edCmp x e = 0) | none => false
theorem bsLo_le {l : List Ed} {e : Ed} : ∀ {f i j : Nat}, i ≤ j → i ≤ bsLo l e f i j ∧ bsLo l e f i j ≤ j
  | 0, i, j, h => ⟨Nat.le_refl _, h⟩
  | f + 1, i, j, h => by
    unfold bsLo
    split
    · split
      · split
        · have := bsLo_le (l := l) (e := e) (f := f) (i := (i + j) / 2 + 1) (j := j) (by omega); omega
        · have := bsLo_le (l := l) (e := e) (f := f) (i := i) (j := (i + j) / 2) (by omega); omega
      · omega
    · omega
theorem bsLo_spec {l : List Ed} {e : Ed} (hs : l.Pairwise fun a b => edLt a b = true) : ∀ {f i j : Nat}, i ≤ j → j ≤ l.length → j - i ≤ f → (∀ k x, k < i → l[k]? = some x → edLt x e = true) → (∀ k x, j ≤ k → l[k]? = some x → edLt x e = false) →
    (∀ k x, k < bsLo l e f i j → l[k]? = some x → edLt x e = true) ∧ (∀ k x, bsLo l e f i j ≤ k → l[k]? = some x → edLt x e = false)
  | 0, i, j, h, _, hf, h1, h2 => by
    have : i = j := by omega
    subst this
    exact ⟨h1, h2⟩
  | f + 1, i, j, h, hj, hf, h1, h2 => by
    unfold bsLo
    by_cases hij : i < j
    · rw [if_pos hij]
      obtain ⟨x, hx⟩ : ∃ x, l[(i + j) / 2]? = some x := ⟨_, List.getElem?_eq_getElem (by omega)⟩
      rw [hx]
      simp only
      have hpw : ∀ (a b : Nat) y z, a < b → l[a]? = some y → l[b]? = some z → edLt y z = true := by
        intro a b y z hab hy hz
        rw [List.pairwise_iff_getElem] at hs
        obtain ⟨p1, q1⟩ := List.getElem?_eq_some_iff.1 hy
        obtain ⟨p2, q2⟩ := List.getElem?_eq_some_iff.1 hz
        rw [← q1, ← q2]; exact hs a b p1 p2 hab
      by_cases hc : edCmp x e < 0
      · rw [if_pos hc]
        have hx2 := (edCmp_neg x e).1 hc
        refine bsLo_spec hs (by omega) hj (by omega) (fun k y hk hy => ?_) h2
        by_cases hk2 : k = (i + j) / 2
        · subst hk2; rw [hx] at hy; cases hy; exact hx2
        · exact edLt_trans (hpw k _ y x (by omega) hy hx) hx2
      · rw [if_neg hc]
        have hx2 : edLt x e = false := by rw [Bool.eq_false_iff]; exact fun h => hc ((edCmp_neg x e).2 h)
        refine bsLo_spec hs (by omega) (by omega) (by omega) h1 (fun k y hk hy => ?_)
        by_cases hk2 : k = (i + j) / 2
        · subst hk2; rw [hx] at hy; cases hy; exact hx2
        · rw [Bool.eq_false_iff]
          intro hye
          have := edLt_trans (hpw _ k x y (by omega) hx hy) hye
          rw [hx2] at this; cases this
    · rw [if_neg hij]
      have : i = j := by omega
      subst this
      exact ⟨h1, h2⟩
theorem edLt_irrefl (e : Ed) : edLt e e = false := by rw [Bool.eq_false_iff, ne_eq, edLt_iff]; omega
theorem bs_found {l : List Ed} (hs : l.Pairwise fun a b => edLt a b = true) {k : Nat} {e : Ed} (h : l[k]? = some e) : bsAt l e = k ∧ bsOk l e = true := by
  have hk : k < l.length := (List.getElem?_eq_some_iff.1 h).1
  obtain ⟨h1, h2⟩ := bsLo_spec hs (e := e) (f := l.length) (i := 0) (j := l.length) (by omega) (Nat.le_refl _) (by omega) (fun k x hk => by omega) (fun k x hk hx => by have := (List.getElem?_eq_some_iff.1 hx).1; omega)
  have hpw : ∀ (a b : Nat) y z, a < b → l[a]? = some y → l[b]? = some z → edLt y z = true := by
    intro a b y z hab hy hz
    rw [List.pairwise_iff_getElem] at hs
    obtain ⟨p1, q1⟩ := List.getElem?_eq_some_iff.1 hy
    obtain ⟨p2, q2⟩ := List.getElem?_eq_some_iff.1 hz
    rw [← q1, ← q2]; exact hs a b p1 p2 hab
  have hat : bsAt l e = k := by
    unfold bsAt
    rcases Nat.lt_trichotomy (bsLo l e l.length 0 l.length) k with h3 | h3 | h3
    · obtain ⟨y, hy⟩ : ∃ y, l[bsLo l e l.length 0 l.length]? = some y := ⟨_, List.getElem?_eq_getElem (by omega)⟩
      have h4 := h2 _ y (Nat.le_refl _) hy
      have h5 := hpw _ k y e h3 hy h
      rw [h4] at h5; cases h5
    · exact h3
    · have := h1 k e h3 h
      rw [edLt_irrefl] at this; cases this
  refine ⟨hat, ?_⟩
  unfold bsOk
  rw [hat, h]
  simp [(edCmp_zero e e).2 rfl]
/-! ### Sets of small numbers -/
def bitsBelow (x : Nat) (k : Nat) : List Nat := (List.range k).filter fun i => x.testBit i
def bitsOf (x : Nat) : List Int := (bitsBelow x 64).map Int.ofNat
theorem bitsBelow_succ (x k : Nat) : bitsBelow x (k + 1) = bitsBelow x k ++ if x.testBit k then [k] else [] := by
  unfold bitsBelow
  rw [List.range_succ, List.filter_append]
  congr 1
  by_cases h : x.testBit k = true <;> simp [h]
theorem bitsBelow_length (x k : Nat) : (bitsBelow x k).length ≤ k := by unfold bitsBelow; exact Nat.le_trans (List.length_filter_le _ _) (by simp)
theorem mem_bitsOf {x : Nat} (hx : x < 2 ^ 63) {y : Int} : y ∈ bitsOf x ↔ 0 ≤ y ∧ x.testBit y.toNat = true := by
  simp only [bitsOf, bitsBelow, List.mem_map, List.mem_filter, List.mem_range]
  constructor
  · rintro ⟨i, ⟨h1, h2⟩, rfl⟩; exact ⟨by simp, by simpa using h2⟩
  · rintro ⟨h1, h2⟩
    refine ⟨y.toNat, ⟨?_, h2⟩, by simp; omega⟩
    rcases Nat.lt_or_ge y.toNat 64 with h3 | h3
    · exact h3
    · have : x < 2 ^ y.toNat := Nat.lt_of_lt_of_le hx (Nat.pow_le_pow_right (by decide) (by omega))
      rw [Nat.testBit_lt_two_pow this] at h2; cases h2
/-- The bits from j on. -/
def bitsFrom (x j : Nat) : Nat := x >>> j <<< j
theorem bitsFrom_test (x j i : Nat) : (bitsFrom x j).testBit i = (decide (j ≤ i) && x.testBit i) := by
  unfold bitsFrom
  rw [Nat.testBit_shiftLeft, Nat.testBit_shiftRight]
  by_cases h : j ≤ i
  · simp [h]
  · simp [h]
theorem bitsFrom_le (x j : Nat) : bitsFrom x j ≤ x := by
  unfold bitsFrom
  rw [Nat.shiftRight_eq_div_pow, Nat.shiftLeft_eq]
  exact Nat.div_mul_le_self _ _
theorem ctz_bits {y : Nat} (h0 : y ≠ 0) (hy : y < 2 ^ 64) : y.testBit (Lib.ctz 64 y) = true ∧ (∀ i, i < Lib.ctz 64 y → y.testBit i = false) ∧ Lib.ctz 64 y < 64 ∧ y &&& (y - 1) = y - 2 ^ Lib.ctz 64 y ∧ ∃ m, y = 2 ^ Lib.ctz 64 y * (2 * m + 1) := by
  have hc : Lib.ctz 64 y = Lib.ctzFrom 64 y := by simp [Lib.ctz, h0]
  obtain ⟨m, hm, hk⟩ := Lib.ctzFrom_spec 64 y (by omega) hy
  rw [hc]
  generalize Lib.ctzFrom 64 y = k at *
  have ht : ∀ i, y.testBit i = (decide (k ≤ i) && (2 * m + 1).testBit (i - k)) := fun i => by
    rw [hm, Nat.mul_comm, Nat.testBit_mul_two_pow]
  refine ⟨by rw [ht]; simp, fun i hi => by rw [ht]; simp; omega, hk, ?_, m, hm⟩
  have hp : 0 < 2 ^ k := Nat.two_pow_pos k
  apply Nat.eq_of_testBit_eq
  intro i
  have e1 : y - 1 = 2 ^ k * (2 * m) + (2 ^ k - 1) := by rw [hm, Nat.mul_add]; omega
  have e2 : y - 2 ^ k = 2 ^ k * (2 * m) := by rw [hm, Nat.mul_add]; omega
  rw [Nat.testBit_and, ht, e2, e1, Nat.testBit_two_pow_mul_add _ (by omega), Nat.mul_comm (2 ^ k), Nat.testBit_mul_two_pow]
  by_cases h : i < k
  · have : ¬ k ≤ i := by omega
    simp [h, this]
  · have h2 : k ≤ i := by omega
    simp only [h, h2, if_false, decide_true, Bool.true_and]
    by_cases h3 : i = k
    · subst h3; simp
    · obtain ⟨j, hj⟩ : ∃ j, i - k = j + 1 := ⟨i - k - 1, by omega⟩
      rw [hj, Nat.testBit_succ, Nat.testBit_succ]
      have d1 : (2 * m + 1) / 2 = m := by omega
      have d2 : 2 * m / 2 = m := by omega
      rw [d1, d2, Bool.and_self]
/-- One member is taken from a set. -/
theorem members_step {x j : Nat} (hx : x < 2 ^ 63) (h0 : bitsFrom x j ≠ 0) : ∃ k, j ≤ k ∧ k < 64 ∧ Lib.ctz 64 (bitsFrom x j) = k ∧ bitsBelow x (k + 1) = bitsBelow x j ++ [k] ∧ bitsFrom x j &&& (bitsFrom x j - 1) = bitsFrom x (k + 1) ∧ bitsFrom x (k + 1) < bitsFrom x j := by
  have hle := bitsFrom_le x j
  obtain ⟨h1, h2, h3, h4, m, hm⟩ := ctz_bits h0 (by omega)
  generalize hk : Lib.ctz 64 (bitsFrom x j) = k at *
  have hjk : j ≤ k := by
    have := bitsFrom_test x j k
    rw [h1] at this
    simp only [Bool.true_eq, Bool.and_eq_true, decide_eq_true_eq] at this
    exact this.1
  have hxk : x.testBit k = true := by
    have := bitsFrom_test x j k
    rw [h1] at this
    simp only [Bool.true_eq, Bool.and_eq_true, decide_eq_true_eq] at this
    exact this.2
  have hbetween : ∀ i, j ≤ i → i < k → x.testBit i = false := fun i hi hik => by
    have := bitsFrom_test x j i
    rw [h2 i hik] at this
    simpa [hi] using this.symm
  have hbel : ∀ d, j + d ≤ k → bitsBelow x (j + d) = bitsBelow x j := by
    intro d
    induction d with
    | zero => intro _; rfl
    | succ d ih =>
      intro hd
      rw [← Nat.add_assoc, bitsBelow_succ, hbetween (j + d) (by omega) (by omega), ih (by omega)]; simp
  have hfrom : bitsFrom x j - 2 ^ k = bitsFrom x (k + 1) := by
    apply Nat.eq_of_testBit_eq
    intro i
    rw [bitsFrom_test]
    have e2 : bitsFrom x j - 2 ^ k = 2 ^ k * (2 * m) := by rw [hm, Nat.mul_add]; omega
    rw [e2, Nat.mul_comm, Nat.testBit_mul_two_pow]
    by_cases h5 : k + 1 ≤ i
    · have h6 := bitsFrom_test x j i
      have h7 : j ≤ i := by omega
      rw [hm, Nat.mul_comm, Nat.testBit_mul_two_pow] at h6
      have h8 : k ≤ i := by omega
      obtain ⟨d, hd⟩ : ∃ d, i - k = d + 1 := ⟨i - k - 1, by omega⟩
      rw [hd, Nat.testBit_succ] at h6 ⊢
      have d1 : (2 * m + 1) / 2 = m := by omega
      have d2 : 2 * m / 2 = m := by omega
      rw [d1] at h6
      rw [d2]
      simp only [h7, h8, h5, decide_true, Bool.true_and] at h6 ⊢
      exact h6
    · by_cases h8 : k = i
      · subst h8; simp; omega
      · have h9 : ¬ k ≤ i := by omega
        simp [h5, h9]
  refine ⟨k, hjk, h3, rfl, ?_, h4.trans hfrom, ?_⟩
  · have := hbel (k - j) (by omega)
    rw [show j + (k - j) = k by omega] at this
    rw [bitsBelow_succ, hxk, this]; simp
  · rw [← hfrom]
    have : 0 < 2 ^ k := Nat.two_pow_pos k
    omega
theorem bitsBelow_end {x j : Nat} (hj : j ≤ 64) (h : bitsFrom x j = 0) : bitsBelow x j = bitsBelow x 64 := by
  have hz : ∀ i, j ≤ i → x.testBit i = false := fun i hi => by
    have := bitsFrom_test x j i
    rw [h] at this
    simpa [hi] using this.symm
  have hbel : ∀ d, bitsBelow x (j + d) = bitsBelow x j := by
    intro d
    induction d with
    | zero => rfl
    | succ d ih => rw [← Nat.add_assoc, bitsBelow_succ, hz (j + d) (by omega), ih]; simp
  have := hbel (64 - j)
  rw [show j + (64 - j) = 64 by omega] at this
  exact this.symm
end AG
end
section
/- The moves of systems and the tables of automata, as the impl keeps them, as plain Lean. -/
namespace AG
open Go
def mbits (es : List Ed) (q l : Int) : Nat := es.foldl (fun n e => if e.fr = q ∧ e.le = l then n ||| 2 ^ e.to.toNat else n) 0
def mvAt (es : List Ed) (k : Nat) : Int := (mbits es (k / 6 : Nat) (k % 6 : Nat) : Nat)
def mvCells (es : List Ed) : List Int := (List.range 96).map (mvAt es)
theorem mbits_snoc (es : List Ed) (e : Ed) (q l : Int) : mbits (es ++ [e]) q l = if e.fr = q ∧ e.le = l then mbits es q l ||| 2 ^ e.to.toNat else mbits es q l := by simp [mbits]
theorem mbits_lt {es : List Ed} (h : ∀ e ∈ es, 0 ≤ e.to ∧ e.to < 16) (q l : Int) : mbits es q l < 2 ^ 16 := by
  have key : ∀ (n : Nat) (es : List Ed), es.length = n → (∀ e ∈ es, 0 ≤ e.to ∧ e.to < 16) → mbits es q l < 2 ^ 16 := by
    intro n
    induction n with
    | zero => intro es he _; have : es = [] := List.eq_nil_of_length_eq_zero he
              subst this; simp [mbits]
    | succ n ih =>
      intro es he h
      rcases snoc_cases es with rfl | ⟨u, x, rfl⟩
      · simp at he
      · have := ih u (by simpa using he) fun e he => h e (by simp [he])
        have hx := h x (by simp)
        rw [mbits_snoc]
        split
        · exact Nat.or_lt_two_pow this (Nat.pow_lt_pow_right (by decide) (by omega))
        · exact this
  exact key _ es rfl h
theorem mbits_test {es : List Ed} (h : ∀ e ∈ es, 0 ≤ e.to) (q l : Int) (t : Nat) : (mbits es q l).testBit t = true ↔ ∃ e ∈ es, e.fr = q ∧ e.le = l ∧ e.to = t := by
  have key : ∀ (n : Nat) (es : List Ed), es.length = n → (∀ e ∈ es, 0 ≤ e.to) → ((mbits es q l).testBit t = true ↔ ∃ e ∈ es, e.fr = q ∧ e.le = l ∧ e.to = t) := by
    intro n
    induction n with
    | zero => intro es he _; have : es = [] := List.eq_nil_of_length_eq_zero he
              subst this; simp [mbits]
    | succ n ih =>
      intro es he h
      rcases snoc_cases es with rfl | ⟨u, x, rfl⟩
      · simp at he
      · have hu := ih u (by simpa using he) fun e he => h e (by simp [he])
        have hx := h x (by simp)
        rw [mbits_snoc]
        by_cases hc : x.fr = q ∧ x.le = l
        · rw [if_pos hc, Nat.testBit_or, Nat.testBit_two_pow, Bool.or_eq_true, hu, decide_eq_true_eq]
          constructor
          · rintro (⟨e, h1, h2⟩ | h1)
            · exact ⟨e, by simp [h1], h2⟩
            · exact ⟨x, by simp, hc.1, hc.2, by omega⟩
          · rintro ⟨e, h1, h2, h3, h4⟩
            rcases List.mem_append.1 h1 with h1 | h1
            · exact .inl ⟨e, h1, h2, h3, h4⟩
            · simp only [List.mem_singleton] at h1; subst h1; exact .inr (by omega)
        · rw [if_neg hc, hu]
          constructor
          · rintro ⟨e, h1, h2⟩; exact ⟨e, by simp [h1], h2⟩
          · rintro ⟨e, h1, h2, h3, h4⟩
            rcases List.mem_append.1 h1 with h1 | h1
            · exact ⟨e, h1, h2, h3, h4⟩
            · simp only [List.mem_singleton] at h1; subst h1; exact absurd ⟨h2, h3⟩ hc
  exact key _ es rfl h
theorem mvCells_length (es : List Ed) : (mvCells es).length = 96 := by simp [mvCells]
theorem mvCells_get (es : List Ed) {q l : Nat} (hq : q < 16) (hl : l < 6) : (mvCells es)[q * 6 + l]? = some ((mbits es q l : Nat) : Int) := by
  have h1 : q * 6 + l < 96 := by omega
  have h2 : (q * 6 + l) / 6 = q := by omega
  have h3 : (q * 6 + l) % 6 = l := by omega
  simp [mvCells, h1, mvAt, h2, h3]
theorem mvCells_snoc (es : List Ed) (e : Ed) {q l : Nat} (hq : e.fr = q ∧ q < 16) (hl : e.le = l ∧ l < 6) : mvCells (es ++ [e]) = (mvCells es).set (q * 6 + l) ((mbits es q l ||| 2 ^ e.to.toNat : Nat) : Int) := by
  apply List.ext_getElem?
  intro k
  rw [List.getElem?_set, mvCells_length]
  by_cases hk : k < 96
  · have g : ∀ es, (mvCells es)[k]? = some ((mbits es (k / 6 : Nat) (k % 6 : Nat) : Nat) : Int) := fun es => by simp [mvCells, hk, mvAt]
    rw [g, g, mbits_snoc]
    by_cases he : q * 6 + l = k
    · subst he
      have h2 : (q * 6 + l) / 6 = q := by omega
      have h3 : (q * 6 + l) % 6 = l := by omega
      rw [if_pos rfl, if_pos hk, h2, h3, if_pos ⟨hq.1, hl.1⟩]
    · rw [if_neg he, if_neg]
      rintro ⟨h4, h5⟩
      omega
  · rw [List.getElem?_eq_none (by rw [mvCells_length]; omega), if_neg (by omega), List.getElem?_eq_none (by rw [mvCells_length]; omega)]
theorem mvCells_nil : mvCells [] = List.replicate 96 0 := by
  apply List.ext_getElem?
  intro k
  by_cases hk : k < 96
  · rw [List.getElem?_replicate, if_pos hk]; simp [mvCells, hk, mvAt, mbits]
  · rw [List.getElem?_eq_none (by rw [mvCells_length]; omega), List.getElem?_eq_none (by rw [List.length_replicate]; omega)]
/-- The states to which a letter leads a part, as the impl lists them. -/
def tos (s : Ts) (q l : Int) : List Int := bif hasL s.al l then bitsOf (mbits s.ed q l) else [q]
theorem tos_mem {s : Ts} (h : sysOk s = true) {q l x : Int} : x ∈ tos s q l ↔ x ∈ (bif hasL s.al l then succs s q l else [q]) := by
  unfold tos
  cases hasL s.al l with
  | false => exact Iff.rfl
  | true =>
    simp only [cond_true]
    have hto : ∀ e ∈ s.ed, 0 ≤ e.to ∧ e.to < 16 := fun e he => by
      have h1 := sysOk_ed h e he
      have h2 := sysOk_st h
      simp only [edOk, Bool.and_eq_true, decide_eq_true_eq] at h1
      omega
    have hlt := mbits_lt hto q l
    rw [mem_bitsOf (by omega), mbits_test (fun e he => (hto e he).1)]
    simp only [succs, List.mem_map, List.mem_filter, Bool.and_eq_true, decide_eq_true_eq]
    constructor
    · rintro ⟨h0, e, h1, h2, h3, h4⟩; exact ⟨e, ⟨h1, h2, h3⟩, by omega⟩
    · rintro ⟨e, ⟨h1, h2, h3⟩, rfl⟩; have := hto e h1; exact ⟨this.1, e, h1, h2, h3, by omega⟩
end AG
end
section
/- The states of parts together, as the impl numbers them, as plain Lean. -/
namespace AG
open Go
def szP (l : List Ts) : Int := l.foldl (fun n s => n * s.st) 1
def stepP (letter : Int) (s : Ts) (st : Int × Int × List Int) : Int × Int × List Int :=
  (st.1 / s.st, st.2.1 * s.st, (tos s (st.1 % s.st) letter).flatMap fun q => st.2.2.map fun x => q * st.2.1 + x)
def pnUp (l : List Ts) (letter node : Int) : Nat → Int × Int × List Int
  | 0 => (node, 1, [0])
  | k + 1 => match l[l.length - 1 - k]? with
    | some s => stepP letter s (pnUp l letter node k)
    | none => pnUp l letter node k
def pnext (l : List Ts) (node letter : Int) : List Int := (pnUp l letter node l.length).2.2
theorem szP_take {l : List Ts} {i : Nat} {s : Ts} (h : l[i]? = some s) : szP (l.take (i + 1)) = szP (l.take i) * s.st := by
  unfold szP; rw [List.take_add_one, h]; simp
theorem szP_pos {l : List Ts} (h : ∀ s ∈ l, sysOk s = true) : ∀ (i : Nat), i ≤ l.length → 1 ≤ szP (l.take i) ∧ szP (l.take i) ≤ 16 ^ i
  | 0, _ => by simp [szP]
  | i + 1, hi => by
    obtain ⟨s, hs⟩ : ∃ s, l[i]? = some s := ⟨_, List.getElem?_eq_getElem (by omega)⟩
    have ih := szP_pos h i (by omega)
    have h1 := sysOk_st (h s (List.mem_of_getElem? hs))
    rw [szP_take hs]
    refine ⟨?_, ?_⟩
    · have := Int.mul_le_mul ih.1 h1.1 (by omega) (by omega); omega
    · rw [Int.pow_succ]; exact Int.mul_le_mul ih.2 h1.2 (by omega) (by omega)
theorem bitsOf_nodup (x : Nat) : (bitsOf x).Nodup := by
  unfold bitsOf bitsBelow
  have h1 : ((List.range 64).filter fun i => x.testBit i).Nodup := List.nodup_range.sublist List.filter_sublist
  unfold List.Nodup at *
  rw [List.pairwise_map]
  exact h1.imp fun h e => h (Int.ofNat.inj e)
theorem tos_in {s : Ts} (h : sysOk s = true) {q l : Int} (hq : 0 ≤ q ∧ q < s.st) : (∀ x ∈ tos s q l, 0 ≤ x ∧ x < s.st) ∧ (tos s q l).length ≤ 16 := by
  have h1 := sysOk_st h
  have hin : ∀ x ∈ tos s q l, 0 ≤ x ∧ x < s.st := fun x hx => by
    have := (tos_mem h).1 hx
    cases hh : hasL s.al l with
    | true => rw [hh] at this; exact succs_in h this
    | false => rw [hh] at this; simp at this; omega
  have hnd : (tos s q l).Nodup := by
    unfold tos
    cases hasL s.al l with
    | true => exact bitsOf_nodup _
    | false => simp
  exact ⟨hin, nodup_len 16 _ hnd fun x hx => by have := hin x hx; omega⟩
theorem pnUp_succ {l : List Ts} {letter node : Int} {k : Nat} {s : Ts} (h : l[l.length - 1 - k]? = some s) : pnUp l letter node (k + 1) = stepP letter s (pnUp l letter node k) := by simp only [pnUp, h]
theorem pnUp_in {l : List Ts} (h : ∀ s ∈ l, sysOk s = true) {letter node : Int} (hn : 0 ≤ node) : ∀ (k : Nat), k ≤ l.length →
    (0 ≤ (pnUp l letter node k).1 ∧ (pnUp l letter node k).1 ≤ node) ∧ (1 ≤ (pnUp l letter node k).2.1 ∧ (pnUp l letter node k).2.1 ≤ 16 ^ k) ∧ (pnUp l letter node k).2.2.length ≤ 16 ^ k ∧ ∀ x ∈ (pnUp l letter node k).2.2, 0 ≤ x ∧ x < (pnUp l letter node k).2.1
  | 0, _ => by simp [pnUp]; omega
  | k + 1, hk => by
    obtain ⟨s, hs⟩ : ∃ s, l[l.length - 1 - k]? = some s := ⟨_, List.getElem?_eq_getElem (by omega)⟩
    have hok := h s (List.mem_of_getElem? hs)
    have h1 := sysOk_st hok
    obtain ⟨⟨a1, a2⟩, ⟨b1, b2⟩, c, d⟩ := pnUp_in h (letter := letter) hn k (by omega)
    rw [pnUp_succ hs]
    generalize pnUp l letter node k = st at *
    obtain ⟨n, w, r⟩ := st
    simp only [stepP] at *
    have ht := tos_in hok (q := n % s.st) (l := letter) ⟨Int.emod_nonneg _ (by omega), Int.emod_lt_of_pos _ (by omega)⟩
    refine ⟨⟨Int.ediv_nonneg a1 (by omega), Int.le_trans (Int.ediv_le_self _ a1) a2⟩, ⟨?_, ?_⟩, ?_, fun x hx => ?_⟩
    · have := Int.mul_le_mul b1 h1.1 (by omega) (by omega); omega
    · rw [Int.pow_succ]; exact Int.mul_le_mul b2 h1.2 (by omega) (by omega)
    · have key : ∀ (L : List Int), (L.flatMap fun q => r.map fun x => q * w + x).length = L.length * r.length := by
        intro L
        induction L with
        | nil => simp
        | cons q L ih => simp only [List.flatMap_cons, List.length_append, List.length_map, List.length_cons, ih, Nat.add_mul, Nat.one_mul]; omega
      rw [key, Nat.pow_succ, Nat.mul_comm]
      exact Nat.mul_le_mul c ht.2
    · simp only [List.mem_flatMap, List.mem_map] at hx
      obtain ⟨q, hq, y, hy, rfl⟩ := hx
      have h2 := ht.1 q hq
      have h3 := d y hy
      have h4 : 0 ≤ q * w := Int.mul_nonneg h2.1 (by omega)
      have h5 : (q + 1) * w ≤ s.st * w := Int.mul_le_mul_of_nonneg_right (by omega) (by omega)
      rw [Int.add_mul, Int.one_mul] at h5
      rw [Int.mul_comm w s.st]
      omega
end AG
end
section
/- The impl's search in shortlex order as plain Lean: its first word is the first word. -/
namespace AG
structure St where
  pa : Int
  le : Int
  nd : List Int
def visF (st : List Bool × List Int) (n : Int) : List Bool × List Int := bif (st.1[n.toNat]?).getD true then st else (st.1.set n.toNat true, st.2 ++ [n])
def visUp (seen : List Bool) (nodes : List Int) (k : Nat) : List Bool × List Int := (nodes.take k).foldl visF (seen, [])
def vis (seen : List Bool) (nodes : List Int) : List Bool × List Int := nodes.foldl visF (seen, [])
theorem visUp_succ {seen : List Bool} {nodes : List Int} {k : Nat} {n : Int} (h : nodes[k]? = some n) : visUp seen nodes (k + 1) = visF (visUp seen nodes k) n := by
  unfold visUp; rw [List.take_add_one, h, List.foldl_append]; rfl
theorem visUp_full (seen : List Bool) (nodes : List Int) : visUp seen nodes nodes.length = vis seen nodes := by unfold visUp vis; rw [List.take_length]
theorem count_set : ∀ {l : List Bool} {i : Nat}, l[i]? = some false → (l.set i true).count true = l.count true + 1
  | [], i, h => by simp at h
  | b :: l, 0, h => by simp at h; subst h; simp
  | b :: l, i + 1, h => by
    have ih := count_set (l := l) (i := i) (by simpa using h)
    rw [List.set_cons_succ, List.count_cons, List.count_cons, ih]; omega
structure VisOk (seen0 : List Bool) (nodes : List Int) (st : List Bool × List Int) : Prop where
  len : st.1.length = seen0.length
  seen : ∀ n : Nat, n < seen0.length → (st.1[n]? = some true ↔ seen0[n]? = some true ∨ (n : Int) ∈ nodes)
  fresh : ∀ n : Int, n ∈ st.2 ↔ n ∈ nodes ∧ seen0[n.toNat]? = some false
  nodup : st.2.Nodup
  cnt : st.1.count true = seen0.count true + st.2.length
theorem visUp_ok {seen0 : List Bool} {nodes : List Int} (hn : ∀ n ∈ nodes, 0 ≤ n ∧ n < seen0.length) : ∀ (k : Nat), k ≤ nodes.length → VisOk seen0 (nodes.take k) (visUp seen0 nodes k)
  | 0, _ => ⟨rfl, fun n hn => by simp [visUp], fun n => by simp [visUp], by simp [visUp], by simp [visUp]⟩
  | k + 1, hk => by
    obtain ⟨n, hnk⟩ : ∃ n, nodes[k]? = some n := ⟨_, List.getElem?_eq_getElem (by omega)⟩
    have ih := visUp_ok hn k (by omega)
    have hr := hn n (List.mem_of_getElem? hnk)
    rw [visUp_succ hnk, List.take_add_one, hnk]
    generalize visUp seen0 nodes k = st at *
    generalize nodes.take k = ns at *
    obtain ⟨s, f⟩ := st
    obtain ⟨h1, h2, h3, h4, h5⟩ := ih
    simp only at h1 h2 h3 h4 h5
    obtain ⟨x, hx⟩ : ∃ x, s[n.toNat]? = some x := ⟨_, List.getElem?_eq_getElem (by omega)⟩
    have hcast : ((n.toNat : Nat) : Int) = n := by omega
    have h2n := h2 n.toNat (by omega)
    rw [hx, hcast] at h2n
    unfold visF
    simp only [hx, Option.getD_some, Option.toList_some]
    cases x with
    | true =>
      simp only [cond_true]
      have hor := h2n.1 rfl
      refine ⟨h1, fun m hm => ?_, fun m => ?_, h4, h5⟩
      · rw [h2 m hm, List.mem_append, List.mem_singleton]
        constructor
        · rintro (h | h)
          · exact .inl h
          · exact .inr (.inl h)
        · rintro (h | h | h)
          · exact .inl h
          · exact .inr h
          · have : m = n.toNat := by omega
            subst this
            rw [hcast]; exact hor
      · rw [h3 m, List.mem_append, List.mem_singleton]
        constructor
        · rintro ⟨ha, hb⟩; exact ⟨.inl ha, hb⟩
        · rintro ⟨ha | ha, hb⟩
          · exact ⟨ha, hb⟩
          · subst ha
            rcases hor with h | h
            · rw [h] at hb; cases hb
            · exact ⟨h, hb⟩
    | false =>
      simp only [cond_false]
      have hno : ¬ (seen0[n.toNat]? = some true ∨ n ∈ ns) := fun h => by have := h2n.2 h; simp at this
      have hs0 : seen0[n.toNat]? = some false := by
        obtain ⟨y, hy⟩ : ∃ y, seen0[n.toNat]? = some y := ⟨_, List.getElem?_eq_getElem (by omega)⟩
        cases y with
        | true => exact absurd (.inl hy) hno
        | false => exact hy
      refine ⟨by simp [h1], fun m hm => ?_, fun m => ?_, ?_, by rw [count_set hx, List.length_append, h5]; simp; omega⟩
      · rw [List.getElem?_set]
        by_cases hmn : n.toNat = m
        · subst hmn
          rw [if_pos rfl, if_pos (by omega), hcast]
          simp
        · rw [if_neg hmn, h2 m hm, List.mem_append, List.mem_singleton]
          constructor
          · rintro (h | h)
            · exact .inl h
            · exact .inr (.inl h)
          · rintro (h | h | h)
            · exact .inl h
            · exact .inr h
            · exfalso; omega
      · rw [List.mem_append, List.mem_append, List.mem_singleton, h3 m]
        constructor
        · rintro (⟨ha, hb⟩ | ha)
          · exact ⟨.inl ha, hb⟩
          · subst ha; exact ⟨.inr rfl, hs0⟩
        · rintro ⟨ha | ha, hb⟩
          · exact .inl ⟨ha, hb⟩
          · exact .inr ha
      · refine List.nodup_append.2 ⟨h4, by simp, fun a ha b hb => ?_⟩
        simp only [List.mem_singleton] at hb
        subst hb
        intro he
        subst he
        exact hno (.inr ((h3 a).1 ha).1)
theorem vis_ok {seen0 : List Bool} {nodes : List Int} (hn : ∀ n ∈ nodes, 0 ≤ n ∧ n < seen0.length) : VisOk seen0 nodes (vis seen0 nodes) := by
  have := visUp_ok hn nodes.length (Nat.le_refl _)
  rwa [visUp_full, List.take_length] at this

/-! ### Steps, their words, and the search -/
structure Pth (st : List St) (ws : List (List Int)) : Prop where
  len : ws.length = st.length
  root : ∀ s, st[0]? = some s → s.pa = -1 ∧ ws[0]? = some []
  step : ∀ (i : Nat) s, 0 < i → st[i]? = some s → ∃ (p : Nat) (w : List Int), s.pa = p ∧ p < i ∧ ws[p]? = some w ∧ ws[i]? = some (w ++ [s.le])
  lets : ∀ (i : Nat) s, st[i]? = some s → 0 ≤ s.le ∧ s.le < 6
theorem Pth.snoc {st : List St} {ws : List (List Int)} (h : Pth st ws) {i : Nat} {wi : List Int} {l : Int} {f : List Int} (hwi : ws[i]? = some wi) (hl : 0 ≤ l ∧ l < 6) : Pth (st ++ [⟨i, l, f⟩]) (ws ++ [wi ++ [l]]) := by
  have hlen := h.len
  have hi : i < ws.length := (List.getElem?_eq_some_iff.1 hwi).1
  have getS : ∀ (k : Nat) s2, (st ++ [(⟨i, l, f⟩ : St)])[k]? = some s2 → (k < st.length ∧ st[k]? = some s2) ∨ (k = st.length ∧ s2 = ⟨i, l, f⟩) := fun k s2 hk => by
    by_cases h1 : k < st.length
    · rw [List.getElem?_append_left h1] at hk; exact .inl ⟨h1, hk⟩
    · have := (List.getElem?_eq_some_iff.1 hk).1
      have h2 : k = st.length := by simp at this; omega
      subst h2
      simp at hk; exact .inr ⟨rfl, hk.symm⟩
  have upW : ∀ {k : Nat} {w}, ws[k]? = some w → (ws ++ [wi ++ [l]])[k]? = some w := fun {k w} hk => by rw [List.getElem?_append_left (List.getElem?_eq_some_iff.1 hk).1]; exact hk
  refine ⟨by simp [hlen], fun s2 hs2 => ?_, fun k s2 hk hs2 => ?_, fun k s2 hs2 => ?_⟩
  · rcases getS 0 s2 hs2 with ⟨_, h1⟩ | ⟨h1, _⟩
    · have := h.root s2 h1; exact ⟨this.1, upW this.2⟩
    · omega
  · rcases getS k s2 hs2 with ⟨h1, h2⟩ | ⟨h1, rfl⟩
    · obtain ⟨p, w, g1, g2, g3, g4⟩ := h.step k s2 hk h2
      exact ⟨p, w, g1, g2, upW g3, upW g4⟩
    · subst h1; exact ⟨i, wi, rfl, by omega, upW hwi, by rw [← hlen]; simp⟩
  · rcases getS k s2 hs2 with ⟨h1, h2⟩ | ⟨h1, rfl⟩
    · exact h.lets k s2 h2
    · exact hl
theorem Pth.short {st : List St} {ws : List (List Int)} (h : Pth st ws) : ∀ (i : Nat) w, ws[i]? = some w → w.length ≤ i := by
  intro i
  induction i using Nat.strongRecOn with
  | ind i ih =>
    intro w hw
    have hlt : i < st.length := by have := (List.getElem?_eq_some_iff.1 hw).1; have := h.len; omega
    rcases Nat.eq_zero_or_pos i with rfl | hi
    · have := (h.root st[0] (List.getElem?_eq_getElem hlt)).2
      rw [hw] at this; cases this; simp
    · obtain ⟨p, wp, _, h2, h3, h4⟩ := h.step i st[i] hi (List.getElem?_eq_getElem hlt)
      rw [hw] at h4; cases h4
      have := ih p h2 wp h3
      simp; omega
/-- The pair of a step and a letter comes before another one. -/
def bef (i li k kl : Nat) : Prop := k < i ∨ (k = i ∧ kl < li)
structure Bfs (y : Sys) (nx : Int → Int → List Int) (g : Int → Bool) (N : Nat) (start : List Int) (st : List St) (ws : List (List Int)) (seen : List Bool) (i li : Nat) : Prop where
  pth : Pth st ws
  slen : seen.length = N
  nodes : ∀ (k : Nat) s w, st[k]? = some s → ws[k]? = some w → ∀ n ∈ s.nd, (0 ≤ n ∧ n < N) ∧ rch y.E y.S w n
  ov : ∀ w ∈ ws, over y.ls w
  inc : ∀ (a b : Nat) u w, a < b → ws[a]? = some u → ws[b]? = some w → num u < num w
  seenOk : ∀ n : Nat, n < N → (seen[n]? = some true ↔ ∃ s ∈ st, (n : Int) ∈ s.nd)
  start : ∀ n ∈ start, ∃ s, st[0]? = some s ∧ n ∈ s.nd
  noGoal : ∀ s ∈ st, ∀ n ∈ s.nd, g n = false
  closed : ∀ (k : Nat) s w, st[k]? = some s → ws[k]? = some w → ∀ (kl : Nat) l, y.ls[kl]? = some l → bef i li k kl → ∀ n ∈ s.nd, ∀ m ∈ nx n l, ∃ (t : Nat) (s' : St) (w' : List Int), st[t]? = some s' ∧ ws[t]? = some w' ∧ m ∈ s'.nd ∧ num w' ≤ num (w ++ [l])
  made : ∀ (k : Nat) w, 0 < k → ws[k]? = some w → ∃ (p kl : Nat) (wp : List Int) (l : Int), ws[p]? = some wp ∧ y.ls[kl]? = some l ∧ w = wp ++ [l] ∧ bef i li p kl
  sz : st.length ≤ seen.count true
  nlen : ∀ s ∈ st, s.nd.length ≤ N
structure SysOk (y : Sys) (nx : Int → Int → List Int) (g : Int → Bool) (N : Nat) (start : List Int) : Prop where
  ls6 : ∀ l ∈ y.ls, 0 ≤ l ∧ l < 6
  sorted : y.ls.Pairwise (· < ·)
  E : ∀ i l j, y.E i l j ↔ j ∈ nx i l
  S : ∀ i, y.S i ↔ i ∈ start
  G : ∀ i, y.G i ↔ g i = true
  st0 : start ≠ []
  st : ∀ n ∈ start, 0 ≤ n ∧ n < N
  nx : ∀ n l, 0 ≤ n ∧ n < (N : Int) → l ∈ y.ls → ∀ m ∈ nx n l, 0 ≤ m ∧ m < N
section
variable {y : Sys} {nx : Int → Int → List Int} {g : Int → Bool} {N : Nat} {start : List Int}
theorem ls_inc (h : SysOk y nx g N start) {a b : Nat} {x z : Int} (ha : y.ls[a]? = some x) (hb : y.ls[b]? = some z) : (a < b → x < z) ∧ (x < z → a < b) := by
  have hs := h.sorted
  rw [List.pairwise_iff_getElem] at hs
  obtain ⟨p1, q1⟩ := List.getElem?_eq_some_iff.1 ha
  obtain ⟨p2, q2⟩ := List.getElem?_eq_some_iff.1 hb
  refine ⟨fun hab => by have := hs a b p1 p2 hab; omega, fun hxz => ?_⟩
  rcases Nat.lt_trichotomy a b with h1 | h1 | h1
  · exact h1
  · subst h1; rw [ha] at hb; cases hb; omega
  · have := hs b a p2 p1 h1; omega
/-- What is reached by a word before the frontier lies in a step of a word no later. -/
theorem Bfs.found {st ws seen} {i li : Nat} (hy : SysOk y nx g N start) (h : Bfs y nx g N start st ws seen i li) {c : Int} (hc : ∀ (k : Nat) w (kl : Nat) l, ws[k]? = some w → y.ls[kl]? = some l → num (w ++ [l]) < c → bef i li k kl) :
    ∀ (n : Nat) (u : List Int), u.length = n → over y.ls u → num u < c → ∀ m, rch y.E y.S u m → ∃ (t : Nat) (s : St) (w : List Int), st[t]? = some s ∧ ws[t]? = some w ∧ m ∈ s.nd ∧ num w ≤ num u := by
  intro n
  induction n with
  | zero =>
    intro u hu _ _ m hm
    have : u = [] := List.eq_nil_of_length_eq_zero hu
    subst this
    obtain ⟨s, h1, h2⟩ := h.start m ((hy.S m).1 hm)
    exact ⟨0, s, [], h1, (h.pth.root s h1).2, h2, Int.le_refl _⟩
  | succ n ih =>
    intro u hu ho hlt m hm
    rcases snoc_cases u with rfl | ⟨v, l, rfl⟩
    · simp at hu
    · rw [rch_snoc] at hm
      obtain ⟨j, hj, hE⟩ := hm
      have hov : over y.ls v := fun x hx => ho x (by simp [hx])
      have hl : l ∈ y.ls := ho l (by simp)
      have hl6 := hy.ls6 l hl
      have hv0 := num_nonneg _ v rfl (over_lets hy.ls6 hov)
      rw [num_snoc] at hlt
      obtain ⟨t, s, w, h1, h2, h3, h4⟩ := ih v (by simpa using hu) hov (by omega) j hj
      obtain ⟨kl, hkl⟩ := List.getElem?_of_mem hl
      have hb := hc t w kl l h2 hkl (by rw [num_snoc]; omega)
      obtain ⟨t', s', w', h5, h6, h7, h8⟩ := h.closed t s w h1 h2 kl l hkl hb j h3 m ((hy.E j l m).1 hE)
      refine ⟨t', s', w', h5, h6, h7, ?_⟩
      rw [num_snoc] at h8 ⊢; omega
/-- All words so far come before the frontier. -/
theorem Bfs.lt {st ws seen} {i li : Nat} (hy : SysOk y nx g N start) (h : Bfs y nx g N start st ws seen i li) {wi : List Int} {l : Int} (hwi : ws[i]? = some wi) (hl : y.ls[li]? = some l) : ∀ w ∈ ws, num w < num (wi ++ [l]) := by
  intro w hw
  have hl6 := hy.ls6 l (List.mem_of_getElem? hl)
  have hwi0 := num_nonneg _ wi rfl (over_lets hy.ls6 (h.ov wi (List.mem_of_getElem? hwi)))
  obtain ⟨k, hk⟩ := List.getElem?_of_mem hw
  rcases Nat.eq_zero_or_pos k with rfl | hk0
  · have h0 : w = [] := by
      have hlen := h.pth.len
      have : 0 < st.length := by rw [← hlen]; exact (List.getElem?_eq_some_iff.1 hk).1
      have := (h.pth.root st[0] (List.getElem?_eq_getElem this)).2
      rw [hk] at this; cases this; rfl
    subst h0
    rw [num_snoc]; simp [num] at hwi0 ⊢; omega
  · obtain ⟨p, kl, wp, x, h1, h2, rfl, h3⟩ := h.made k w hk0 hk
    have hx6 := hy.ls6 x (List.mem_of_getElem? h2)
    rw [num_snoc, num_snoc]
    rcases h3 with h3 | ⟨rfl, h3⟩
    · have := h.inc p i wp wi h3 h1 hwi; omega
    · rw [hwi] at h1; cases h1
      have := (ls_inc hy h2 hl).1 h3; omega
/-- A goal among the new nodes: the frontier is the first word. -/
theorem Bfs.hit {st ws seen} {i li : Nat} (hy : SysOk y nx g N start) (h : Bfs y nx g N start st ws seen i li) {s : St} {wi : List Int} {l : Int} (hs : st[i]? = some s) (hwi : ws[i]? = some wi) (hl : y.ls[li]? = some l)
    {n m : Int} (hn : n ∈ s.nd) (hm : m ∈ nx n l) (hg : g m = true) : IsFirst y (wi ++ [l]) := by
  have hlm := List.mem_of_getElem? hl
  have hov := h.ov wi (List.mem_of_getElem? hwi)
  refine ⟨fun x hx => ?_, ⟨m, rch_snoc.2 ⟨n, ((h.nodes i s wi hs hwi n hn).2), (hy.E n l m).2 hm⟩, (hy.G m).2 hg⟩, fun u hu hlt hh => ?_⟩
  · rcases List.mem_append.1 hx with hx | hx
    · exact hov x hx
    · simp only [List.mem_singleton] at hx; subst hx; exact hlm
  · obtain ⟨j, hj, hjg⟩ := hh
    obtain ⟨t, s', w', h1, h2, h3, _⟩ := h.found hy (c := num (wi ++ [l])) (fun k w kl x hk hx hlt2 => by
      rw [num_snoc, num_snoc] at hlt2
      have hx6 := hy.ls6 x (List.mem_of_getElem? hx)
      have hl6 := hy.ls6 l hlm
      rcases Nat.lt_trichotomy k i with h4 | h4 | h4
      · exact .inl h4
      · subst h4
        rw [hwi] at hk; cases hk
        exact .inr ⟨rfl, (ls_inc hy hx hl).2 (by omega)⟩
      · have := h.inc i k wi w h4 hwi hk; omega) _ u rfl hu hlt j hj
    have := h.noGoal s' (List.mem_of_getElem? h1) j h3
    rw [(hy.G j).1 hjg] at this; cases this
/-- No step is left: there is no word. -/
theorem Bfs.none {st ws seen} {i : Nat} (hy : SysOk y nx g N start) (h : Bfs y nx g N start st ws seen i 0) (hi : st.length ≤ i) : firstOf y = none := by
  refine firstOf_none fun u hu hh => ?_
  obtain ⟨j, hj, hjg⟩ := hh
  obtain ⟨t, s', w', h1, h2, h3, _⟩ := h.found hy (c := num u + 1) (fun k w kl x hk hx _ => .inl (by have := (List.getElem?_eq_some_iff.1 hk).1; have := h.pth.len; omega)) _ u rfl hu (by omega) j hj
  have := h.noGoal s' (List.mem_of_getElem? h1) j h3
  rw [(hy.G j).1 hjg] at this; cases this
theorem Bfs.next {st ws seen} {i li : Nat} (h : Bfs y nx g N start st ws seen i li) (hli : li = y.ls.length) : Bfs y nx g N start st ws seen (i + 1) 0 := by
  have hb : ∀ {k kl : Nat} {l : Int}, y.ls[kl]? = some l → bef (i + 1) 0 k kl → bef i li k kl := fun {k kl l} hl hb => by
    have := (List.getElem?_eq_some_iff.1 hl).1
    unfold bef at *; omega
  have hb2 : ∀ {k kl : Nat}, bef i li k kl → bef (i + 1) 0 k kl := fun hb => by unfold bef at *; omega
  exact { h with
    closed := fun k s w hk hw kl l hl hbf => h.closed k s w hk hw kl l hl (hb hl hbf)
    made := fun k w hk hw => by obtain ⟨p, kl, wp, l, h1, h2, h3, h4⟩ := h.made k w hk hw; exact ⟨p, kl, wp, l, h1, h2, h3, hb2 h4⟩ }
/-- The first visit. -/
theorem Bfs.init (hy : SysOk y nx g N start) (hN : 0 < N) (hg : ∀ n ∈ start, g n = false) {r : List Bool × List Int} (hr : VisOk (List.replicate N false) start r) :
    r.2 ≠ [] ∧ Bfs y nx g N start [⟨-1, 0, r.2⟩] [[]] r.1 0 0 := by
  have hmem : ∀ n, n ∈ r.2 ↔ n ∈ start := fun n => by
    rw [hr.fresh]
    constructor
    · exact fun h => h.1
    · intro h
      have := hy.st n h
      exact ⟨h, by rw [List.getElem?_replicate, if_pos (by omega)]⟩
  obtain ⟨n0, hn0⟩ := List.exists_mem_of_ne_nil _ hy.st0
  refine ⟨(fun h => by have := (hmem n0).2 hn0; rw [h] at this; cases this), ?_⟩
  refine ⟨⟨rfl, fun s hs => ?_, fun i s hi hs => ?_, fun i s hs => ?_⟩, by rw [hr.len]; simp, fun k s w hk hw n hn => ?_, fun w hw => ?_, fun a b u w hab hu hw => ?_, fun n hn => ?_, fun n hn => ⟨_, rfl, (hmem n).2 hn⟩, fun s hs n hn => ?_, fun k s w hk hw kl l hl hb => ?_, fun k w hk hw => ?_, ?_, fun s hs => ?_⟩
  rotate_left 10
  · rw [hr.cnt]
    have : 0 < r.2.length := List.length_pos_iff.2 (fun h => by have := (hmem n0).2 hn0; rw [h] at this; cases this)
    simp; omega
  · simp only [List.mem_singleton] at hs; subst hs
    exact nodup_len N _ hr.nodup fun x hx => hy.st x ((hmem x).1 hx)
  · simp at hs; subst hs; exact ⟨rfl, rfl⟩
  · have := (List.getElem?_eq_some_iff.1 hs).1; simp at this; omega
  · have := (List.getElem?_eq_some_iff.1 hs).1
    have : i = 0 := by simp at this; omega
    subst this; simp at hs; subst hs; simp
  · have := (List.getElem?_eq_some_iff.1 hk).1
    have : k = 0 := by simp at this; omega
    subst this
    simp at hk hw; subst hk hw
    have := (hmem n).1 hn
    exact ⟨hy.st n this, (hy.S n).2 this⟩
  · simp only [List.mem_singleton] at hw; subst hw; intro x hx; cases hx
  · have := (List.getElem?_eq_some_iff.1 hw).1; simp at this; omega
  · rw [hr.seen n (by simpa using hn), List.getElem?_replicate, if_pos hn]
    simp only [Option.some.injEq, Bool.false_eq_true, false_or, List.mem_singleton, exists_eq_left, hmem]
  · simp only [List.mem_singleton] at hs; subst hs
    exact hg n ((hmem n).1 hn)
  · unfold bef at hb; omega
  · have := (List.getElem?_eq_some_iff.1 hw).1; simp at this; omega
/-- A goal at the start: the empty word. -/
theorem first_nil (hy : SysOk y nx g N start) {n : Int} (hn : n ∈ start) (hg : g n = true) : firstOf y = some [] :=
  firstOf_some hy.ls6 ⟨fun x hx => (by cases hx), ⟨n, (hy.S n).2 hn, (hy.G n).2 hg⟩, fun u hu hlt _ => by
    have := num_nonneg _ u rfl (over_lets hy.ls6 hu)
    simp [num] at hlt this; omega⟩
/-- A visit that finds no goal. -/
theorem Bfs.visit {st ws seen} {i li : Nat} (hy : SysOk y nx g N start) (h : Bfs y nx g N start st ws seen i li) {s : St} {wi : List Int} {l : Int} (hs : st[i]? = some s) (hwi : ws[i]? = some wi) (hl : y.ls[li]? = some l)
    {r : List Bool × List Int} (hr : VisOk seen (s.nd.flatMap fun n => nx n l) r) (hg : ∀ m ∈ r.2, g m = false) :
    (r.2 = [] → Bfs y nx g N start st ws r.1 i (li + 1)) ∧ (r.2 ≠ [] → Bfs y nx g N start (st ++ [⟨i, l, r.2⟩]) (ws ++ [wi ++ [l]]) r.1 i (li + 1)) := by
  have hlm := List.mem_of_getElem? hl
  have hl6 := hy.ls6 l hlm
  have hlen := h.pth.len
  have hist : i < st.length := (List.getElem?_eq_some_iff.1 hs).1
  have hb1 : ∀ {k kl : Nat}, bef i (li + 1) k kl → bef i li k kl ∨ (k = i ∧ kl = li) := fun hb => by unfold bef at *; omega
  have hb2 : ∀ {k kl : Nat}, bef i li k kl → bef i (li + 1) k kl := fun hb => by unfold bef at *; omega
  have hsn : ∀ n ∈ s.nd, 0 ≤ n ∧ n < (N : Int) := fun n hn => (h.nodes i s wi hs hwi n hn).1
  have hin : ∀ m ∈ (s.nd.flatMap fun n => nx n l), 0 ≤ m ∧ m < (N : Int) := fun m hm => by
    obtain ⟨n, hn, hm⟩ := List.mem_flatMap.1 hm
    exact hy.nx n l (hsn n hn) hlm m hm
  have hold : ∀ n ∈ s.nd, ∀ m ∈ nx n l, m ∉ r.2 → ∃ (t : Nat) (s' : St) (w' : List Int), st[t]? = some s' ∧ ws[t]? = some w' ∧ m ∈ s'.nd ∧ num w' ≤ num (wi ++ [l]) := fun n hn m hm hnf => by
    have hmem : m ∈ (s.nd.flatMap fun n => nx n l) := List.mem_flatMap.2 ⟨n, hn, hm⟩
    have hr2 := hin m hmem
    have hcast : ((m.toNat : Nat) : Int) = m := by omega
    have hsl := h.slen
    obtain ⟨b, hb⟩ : ∃ b, seen[m.toNat]? = some b := ⟨_, List.getElem?_eq_getElem (by omega)⟩
    cases b with
    | false => exact absurd ((hr.fresh m).2 ⟨hmem, hb⟩) hnf
    | true =>
      obtain ⟨s', hs', hm'⟩ := (h.seenOk m.toNat (by omega)).1 hb
      rw [hcast] at hm'
      obtain ⟨t, ht⟩ := List.getElem?_of_mem hs'
      have htl := (List.getElem?_eq_some_iff.1 ht).1
      have hwt : ws[t]? = some (ws[t]'(by omega)) := List.getElem?_eq_getElem (by omega)
      exact ⟨t, s', _, ht, hwt, hm', Int.le_of_lt (h.lt hy hwi hl _ (List.mem_of_getElem? hwt))⟩
  constructor
  · intro hr0
    have hrl : r.2.length = 0 := by rw [hr0]; rfl
    have hcnt := hr.cnt
    have hsz := h.sz
    refine { h with sz := by omega, slen := hr.len.trans h.slen, seenOk := fun n hn => ?_, closed := fun k s2 w hk hw kl x hx hb n hn m hm => ?_, made := fun k w hk hw => by obtain ⟨p, kl, wp, x, h1, h2, h3, h4⟩ := h.made k w hk hw; exact ⟨p, kl, wp, x, h1, h2, h3, hb2 h4⟩ }
    · rw [hr.seen n (by rw [h.slen]; exact hn), h.seenOk n hn]
      constructor
      · rintro (h1 | h1)
        · exact h1
        · obtain ⟨n', hn', hm'⟩ := List.mem_flatMap.1 h1
          obtain ⟨t, s', w', h2, _, h4, _⟩ := hold n' hn' n hm' (by rw [hr0]; simp)
          exact ⟨s', List.mem_of_getElem? h2, h4⟩
      · exact .inl
    · rcases hb1 hb with hb | ⟨rfl, rfl⟩
      · exact h.closed k s2 w hk hw kl x hx hb n hn m hm
      · rw [hs] at hk; cases hk
        rw [hwi] at hw; cases hw
        rw [hl] at hx; cases hx
        exact hold n hn m hm (by rw [hr0]; simp)
  · intro hr0
    have hfin : ∀ m ∈ r.2, ∃ n ∈ s.nd, m ∈ nx n l := fun m hm => List.mem_flatMap.1 ((hr.fresh m).1 hm).1
    have getS : ∀ (k : Nat) s2, (st ++ [(⟨i, l, r.2⟩ : St)])[k]? = some s2 → (k < st.length ∧ st[k]? = some s2) ∨ (k = st.length ∧ s2 = ⟨i, l, r.2⟩) := fun k s2 hk => by
      by_cases h1 : k < st.length
      · rw [List.getElem?_append_left h1] at hk; exact .inl ⟨h1, hk⟩
      · have := (List.getElem?_eq_some_iff.1 hk).1
        have h2 : k = st.length := by simp at this; omega
        subst h2
        simp at hk; exact .inr ⟨rfl, hk.symm⟩
    have getW : ∀ (k : Nat) w, (ws ++ [wi ++ [l]])[k]? = some w → (k < ws.length ∧ ws[k]? = some w) ∨ (k = ws.length ∧ w = wi ++ [l]) := fun k w hk => by
      by_cases h1 : k < ws.length
      · rw [List.getElem?_append_left h1] at hk; exact .inl ⟨h1, hk⟩
      · have := (List.getElem?_eq_some_iff.1 hk).1
        have h2 : k = ws.length := by simp at this; omega
        subst h2
        simp at hk; exact .inr ⟨rfl, hk.symm⟩
    have upS : ∀ {k : Nat} {s2}, st[k]? = some s2 → (st ++ [(⟨i, l, r.2⟩ : St)])[k]? = some s2 := fun {k s2} hk => by rw [List.getElem?_append_left (List.getElem?_eq_some_iff.1 hk).1]; exact hk
    have upW : ∀ {k : Nat} {w}, ws[k]? = some w → (ws ++ [wi ++ [l]])[k]? = some w := fun {k w} hk => by rw [List.getElem?_append_left (List.getElem?_eq_some_iff.1 hk).1]; exact hk
    have lastS : (st ++ [(⟨i, l, r.2⟩ : St)])[st.length]? = some ⟨i, l, r.2⟩ := by simp
    have lastW : (ws ++ [wi ++ [l]])[st.length]? = some (wi ++ [l]) := by rw [← hlen]; simp
    have hov := h.ov wi (List.mem_of_getElem? hwi)
    have hrl : 0 < r.2.length := List.length_pos_iff.2 hr0
    have hcnt := hr.cnt
    have hsz := h.sz
    refine ⟨⟨by simp [hlen], fun s2 hs2 => ?_, fun k s2 hk hs2 => ?_, fun k s2 hs2 => ?_⟩, hr.len.trans h.slen, fun k s2 w hk hw n hn => ?_, fun w hw => ?_, fun a b u w hab hu hw => ?_, fun n hn => ?_, fun n hn => ?_, fun s2 hs2 n hn => ?_, fun k s2 w hk hw kl x hx hb n hn m hm => ?_, fun k w hk hw => ?_, by simp; omega, fun s2 hs2 => ?_⟩
    · rcases getS 0 s2 hs2 with ⟨_, h1⟩ | ⟨h1, _⟩
      · have := h.pth.root s2 h1; exact ⟨this.1, upW this.2⟩
      · omega
    · rcases getS k s2 hs2 with ⟨h1, h2⟩ | ⟨h1, rfl⟩
      · obtain ⟨p, w, g1, g2, g3, g4⟩ := h.pth.step k s2 hk h2
        exact ⟨p, w, g1, g2, upW g3, upW g4⟩
      · subst h1; exact ⟨i, wi, rfl, hist, upW hwi, lastW⟩
    · rcases getS k s2 hs2 with ⟨h1, h2⟩ | ⟨h1, rfl⟩
      · exact h.pth.lets k s2 h2
      · exact hl6
    · rcases getS k s2 hk with ⟨h1, h2⟩ | ⟨h1, rfl⟩
      · rcases getW k w hw with ⟨_, h3⟩ | ⟨h3, _⟩
        · exact h.nodes k s2 w h2 h3 n hn
        · omega
      · rcases getW k w hw with ⟨h3, _⟩ | ⟨_, rfl⟩
        · omega
        · obtain ⟨n', hn', hm'⟩ := hfin n hn
          exact ⟨hy.nx n' l (hsn n' hn') hlm n hm', rch_snoc.2 ⟨n', (h.nodes i s wi hs hwi n' hn').2, (hy.E n' l n).2 hm'⟩⟩
    · rcases List.mem_append.1 hw with hw | hw
      · exact h.ov w hw
      · simp only [List.mem_singleton] at hw; subst hw
        intro x hx
        rcases List.mem_append.1 hx with hx | hx
        · exact hov x hx
        · simp only [List.mem_singleton] at hx; subst hx; exact hlm
    · rcases getW b w hw with ⟨h1, h2⟩ | ⟨h1, rfl⟩
      · rcases getW a u hu with ⟨_, h3⟩ | ⟨h3, _⟩
        · exact h.inc a b u w hab h3 h2
        · omega
      · rcases getW a u hu with ⟨_, h3⟩ | ⟨h3, _⟩
        · exact h.lt hy hwi hl u (List.mem_of_getElem? h3)
        · omega
    · rw [hr.seen n (by rw [h.slen]; exact hn), h.seenOk n hn]
      constructor
      · rintro (⟨s2, h1, h2⟩ | h1)
        · exact ⟨s2, by simp [h1], h2⟩
        · obtain ⟨n', hn', hm'⟩ := List.mem_flatMap.1 h1
          by_cases hf : (n : Int) ∈ r.2
          · exact ⟨⟨i, l, r.2⟩, by simp, hf⟩
          · obtain ⟨t, s', w', h2, _, h4, _⟩ := hold n' hn' n hm' hf
            exact ⟨s', by simp [List.mem_of_getElem? h2], h4⟩
      · rintro ⟨s2, h1, h2⟩
        rcases List.mem_append.1 h1 with h1 | h1
        · exact .inl ⟨s2, h1, h2⟩
        · simp only [List.mem_singleton] at h1; subst h1
          exact .inr ((hr.fresh _).1 h2).1
    · obtain ⟨s2, h1, h2⟩ := h.start n hn
      exact ⟨s2, upS h1, h2⟩
    · rcases List.mem_append.1 hs2 with h1 | h1
      · exact h.noGoal s2 h1 n hn
      · simp only [List.mem_singleton] at h1; subst h1; exact hg n hn
    · have old : ∀ {k : Nat} {s2 : St} {w : List Int}, (∃ (t : Nat) (s' : St) (w' : List Int), st[t]? = some s' ∧ ws[t]? = some w' ∧ m ∈ s'.nd ∧ num w' ≤ num (w ++ [x])) → ∃ (t : Nat) (s' : St) (w' : List Int), (st ++ [(⟨i, l, r.2⟩ : St)])[t]? = some s' ∧ (ws ++ [wi ++ [l]])[t]? = some w' ∧ m ∈ s'.nd ∧ num w' ≤ num (w ++ [x]) := fun ⟨t, s', w', h1, h2, h3⟩ => ⟨t, s', w', upS h1, upW h2, h3⟩
      have hkl : k < st.length := by
        have := hb1 hb; unfold bef at this; omega
      rcases getS k s2 hk with ⟨_, h2⟩ | ⟨h1, _⟩
      · rcases getW k w hw with ⟨_, h3⟩ | ⟨h3, _⟩
        · rcases hb1 hb with hb | ⟨rfl, rfl⟩
          · exact old (k := k) (s2 := s2) (h.closed k s2 w h2 h3 kl x hx hb n hn m hm)
          · rw [hs] at h2; cases h2
            rw [hwi] at h3; cases h3
            rw [hl] at hx; cases hx
            by_cases hf : m ∈ r.2
            · exact ⟨st.length, _, _, lastS, lastW, hf, Int.le_refl _⟩
            · exact old (k := k) (s2 := s) (hold n hn m hm hf)
        · omega
      · omega
    · rcases getW k w hw with ⟨h1, h2⟩ | ⟨h1, rfl⟩
      · obtain ⟨p, kl, wp, x, g1, g2, g3, g4⟩ := h.made k w hk h2
        exact ⟨p, kl, wp, x, upW g1, g2, g3, hb2 g4⟩
      · exact ⟨i, li, wi, l, upW hwi, hl, rfl, .inr ⟨rfl, by omega⟩⟩
    · rcases List.mem_append.1 hs2 with h1 | h1
      · exact h.nlen s2 h1
      · simp only [List.mem_singleton] at h1; subst h1
        exact nodup_len N _ hr.nodup fun x hx => hin x ((hr.fresh x).1 hx).1
end
end AG
end
section
/- The impl's search for a broken property, as plain Lean. -/
namespace AG
open Go
def triv : Au := ⟨0, [[]], [true]⟩
def bRest (aa p : Au) (node l : Int) : Int := aGo aa (node / p.nx.length % aa.nx.length) l * p.nx.length + aGo p (node % p.nx.length) l
def bNext (ps : List Ts) (aa p : Au) (node l : Int) : List Int := (pnext ps (node / p.nx.length / aa.nx.length) l).map fun x => x * aa.nx.length * p.nx.length + bRest aa p node l
def bGoal (aa p : Au) (node : Int) : Bool := (aa.ac[(node / p.nx.length % aa.nx.length).toNat]?).getD false && !(p.ac[(node % p.nx.length).toNat]?).getD false
def bSys (ps : List Ts) (aa p : Au) : Sys := ⟨letters (lor (partsAl ps) aa.al), fun i l j => j ∈ bNext ps aa p i l, fun i => i ∈ [(0 : Int)], fun i => bGoal aa p i = true⟩
def bSize (ps : List Ts) (aa p : Au) : Nat := (szP ps * aa.nx.length * p.nx.length).toNat
theorem set_mid {α : Type} {x y : α} {post : List α} : ∀ (pre : List α), (pre ++ x :: post).set pre.length y = pre ++ y :: post
  | [] => rfl
  | a :: pre => by simp [set_mid pre]
theorem map_step {α : Type} (f : α → α) (xs : List α) {R : List α} {j : Nat} {x : α} (h : R[j]? = some x) : (xs ++ ((R.take j).map f ++ R.drop j))[xs.length + j]? = some x ∧ (xs ++ ((R.take j).map f ++ R.drop j)).set (xs.length + j) (f x) = xs ++ ((R.take (j + 1)).map f ++ R.drop (j + 1)) := by
  have hj : j < R.length := (List.getElem?_eq_some_iff.1 h).1
  have hx : R[j] = x := (List.getElem?_eq_some_iff.1 h).2
  have e1 : xs ++ ((R.take j).map f ++ R.drop j) = (xs ++ (R.take j).map f) ++ x :: R.drop (j + 1) := by rw [List.drop_eq_getElem_cons hj, hx, List.append_assoc]
  have e2 : (xs ++ (R.take j).map f).length = xs.length + j := by simp; omega
  rw [e1, ← e2]
  refine ⟨by simp, ?_⟩
  rw [set_mid, List.take_add_one, h]
  simp
theorem triv_ok : autOk triv = true := by decide
theorem pnext_in {ps : List Ts} (h : ∀ s ∈ ps, sysOk s = true) (hl : ps.length ≤ 3) {node l : Int} (hn : 0 ≤ node) : (pnext ps node l).length ≤ 4096 ∧ ∀ x ∈ pnext ps node l, 0 ≤ x ∧ x < szP ps := by
  have h1 := pnUp_in h (letter := l) hn ps.length (Nat.le_refl _)
  have h2 : (16 : Nat) ^ ps.length ≤ 4096 := by
    have : ps.length = 0 ∨ ps.length = 1 ∨ ps.length = 2 ∨ ps.length = 3 := by omega
    rcases this with h | h | h | h <;> rw [h] <;> decide
  have hw : ∀ k, k ≤ ps.length → (pnUp ps l node k).2.1 * szP (ps.take (ps.length - k)) = szP ps := by
    intro k
    induction k with
    | zero => intro _; simp [pnUp]
    | succ k ih =>
      intro hk
      obtain ⟨s, hs⟩ : ∃ s, ps[ps.length - 1 - k]? = some s := ⟨_, List.getElem?_eq_getElem (by omega)⟩
      have := ih (by omega)
      rw [pnUp_succ hs]
      simp only [stepP]
      have e : ps.length - k = (ps.length - (k + 1)) + 1 := by omega
      have e2 : ps.length - (k + 1) = ps.length - 1 - k := by omega
      rw [e, e2, szP_take hs] at this
      rw [e2, ← this, Int.mul_assoc, Int.mul_comm s.st]
  have hfin := hw ps.length (Nat.le_refl _)
  rw [Nat.sub_self, List.take_zero] at hfin
  simp only [szP, List.foldl_nil, Int.mul_one] at hfin
  unfold pnext
  refine ⟨by omega, fun x hx => ?_⟩
  have := h1.2.2.2 x hx
  rw [hfin] at this
  exact this
end AG
end
section
/- The impl's search finds what the spec's finds, as plain Lean. -/
namespace AG
open Go
theorem decR_at {k : Int} : ∀ {sz : List Int} {i : Nat} {s : Int}, sz[i]? = some s → (decR sz k).1[i]? = some ((decR (sz.drop (i + 1)) k).2 % s) ∧ (decR (sz.drop i) k).2 = (decR (sz.drop (i + 1)) k).2 / s
  | [], i, s, h => by simp at h
  | t :: r, 0, s, h => by
    simp only [List.getElem?_cons_zero, Option.some.injEq] at h
    subst h
    simp [decR]
  | t :: r, i + 1, s, h => by
    simp only [List.getElem?_cons_succ] at h
    obtain ⟨h1, h2⟩ := decR_at (k := k) h
    simp only [decR, List.getElem?_cons_succ, List.drop_succ_cons]
    exact ⟨h1, h2⟩
theorem pnUp_snoc {l : List Ts} {s : Ts} {letter node : Int} : ∀ {k : Nat}, k ≤ l.length →
    (pnUp (l ++ [s]) letter node (k + 1)).1 = (pnUp l letter (node / s.st) k).1 ∧ (pnUp (l ++ [s]) letter node (k + 1)).2.1 = (pnUp l letter (node / s.st) k).2.1 * s.st ∧
      ∀ x, x ∈ (pnUp (l ++ [s]) letter node (k + 1)).2.2 ↔ ∃ y ∈ (pnUp l letter (node / s.st) k).2.2, ∃ c ∈ tos s (node % s.st) letter, x = y * s.st + c
  | 0, _ => by
    have h : (l ++ [s])[(l ++ [s]).length - 1 - 0]? = some s := by simp
    rw [pnUp_succ h]
    simp [pnUp, stepP]
  | k + 1, hk => by
    obtain ⟨i1, i2, i3⟩ := pnUp_snoc (l := l) (s := s) (letter := letter) (node := node) (k := k) (by omega)
    obtain ⟨t, ht⟩ : ∃ t, l[l.length - 1 - k]? = some t := ⟨_, List.getElem?_eq_getElem (by omega)⟩
    have ht2 : (l ++ [s])[(l ++ [s]).length - 1 - (k + 1)]? = some t := by
      have e : (l ++ [s]).length - 1 - (k + 1) = l.length - 1 - k := by simp; omega
      rw [e, List.getElem?_append_left (by omega), ht]
    rw [pnUp_succ ht2, pnUp_succ ht]
    simp only [stepP]
    rw [i1, i2]
    refine ⟨rfl, by rw [Int.mul_right_comm], fun x => ?_⟩
    simp only [List.mem_flatMap, List.mem_map]
    constructor
    · rintro ⟨q, hq, x1, hx1, rfl⟩
      obtain ⟨y, hy, c, hc, rfl⟩ := (i3 x1).1 hx1
      refine ⟨_, ⟨q, hq, y, hy, rfl⟩, c, hc, ?_⟩
      rw [Int.add_mul, Int.mul_assoc]; omega
    · rintro ⟨_, ⟨q, hq, y, hy, rfl⟩, c, hc, rfl⟩
      refine ⟨q, hq, _, (i3 _).2 ⟨y, hy, c, hc, rfl⟩, ?_⟩
      rw [Int.add_mul, Int.mul_assoc]; omega
theorem pnext_snoc {l : List Ts} {s : Ts} {letter node x : Int} : x ∈ pnext (l ++ [s]) node letter ↔ ∃ y ∈ pnext l (node / s.st) letter, ∃ c ∈ tos s (node % s.st) letter, x = y * s.st + c := by
  have := (pnUp_snoc (l := l) (s := s) (letter := letter) (node := node) (Nat.le_refl _)).2.2 x
  unfold pnext
  rw [List.length_append, List.length_singleton]
  exact this
theorem nexts_parts {n : Nt} (hn : NtOk n) (k letter : Int) : ∀ (i : Nat), i ≤ n.ps.length → ∀ x, x ∈ nextsUp n (dec (szs n) k) letter i ↔ x ∈ pnext (n.ps.take i) (decR ((szs n).drop i) k).2 letter
  | 0, _, x => by simp [nextsUp, pnext, pnUp]
  | i + 1, hi, x => by
    obtain ⟨s, hs⟩ : ∃ s, n.ps[i]? = some s := ⟨_, List.getElem?_eq_getElem (by omega)⟩
    have hz := szs_p hs
    obtain ⟨d1, d2⟩ := decR_at (k := k) hz
    have ht : n.ps.take (i + 1) = n.ps.take i ++ [s] := by rw [List.take_add_one, hs]; rfl
    rw [ht, pnext_snoc, ← d2]
    have e1 : (dec (szs n) k)[i]? = some ((decR ((szs n).drop (i + 1)) k).2 % s.st) := d1
    simp only [nextsUp, List.mem_flatMap, List.mem_map, e1, hz, Option.getD_some, choices_p hs]
    constructor
    · rintro ⟨y, hy, c, hc, rfl⟩
      exact ⟨y, (nexts_parts hn k letter i (by omega) y).1 hy, c, (tos_mem ((hn.ps s (List.mem_of_getElem? hs)).1)).2 hc, rfl⟩
    · rintro ⟨y, hy, c, hc, rfl⟩
      exact ⟨y, (nexts_parts hn k letter i (by omega) y).2 hy, c, (tos_mem ((hn.ps s (List.mem_of_getElem? hs)).1)).1 hc, rfl⟩
theorem aGo_triv (q l : Int) : aGo triv q l = q := by
  unfold aGo
  have : hasL triv.al l = false := by
    simp [triv, hasL]
  rw [this]; rfl
theorem enc_zero (n : Nt) : enc (szs n) (List.replicate (n.ps.length + n.as.length) 0) = 0 := by
  have key : ∀ (sz : List Int) (m : Nat) (a : Int), a = 0 → (sz.zip (List.replicate m 0)).foldl (fun n p => n * p.1 + p.2) a = 0 := by
    intro sz
    induction sz with
    | nil => intro m a ha; simp [ha]
    | cons s r ih =>
      intro m a ha
      cases m with
      | zero => simp [ha]
      | succ m => simp only [List.replicate_succ, List.zip_cons_cons, List.foldl_cons]; exact ih m _ (by rw [ha]; simp)
  exact key _ _ 0 rfl
theorem first_parts {l : List Ts} {p : Au} (hl : ∀ s ∈ l, s.ed.length ≤ 1048576) (h : partsOk l = true) (hp : autOk p = true) : firstOf (bSys l triv p) = firstN (partsNet l p) := by
  have hn := partsNet_ok hl h hp
  have hle : (partsNet l p).ps.length + (partsNet l p).as.length = l.length + 1 := rfl
  have hsz : (szs (partsNet l p))[l.length]? = some (p.nx.length : Int) := szs_a (n := partsNet l p) (Nat.le_refl _) (by simp [partsNet])
  have hal : lor (partsAl l) triv.al = partsAl l := by
    have := partsAl_ok h
    simp [lor, triv]; omega
  obtain ⟨p1, p2, _⟩ := autOk_len hp
  have hdr : ∀ k, (decR ((szs (partsNet l p)).drop (l.length + 1)) k).2 = k := fun k => by
    rw [List.drop_of_length_le (by rw [szs_len]; simp [partsNet])]; rfl
  have hdig : ∀ k, (dec (szs (partsNet l p)) k)[l.length]? = some (k % p.nx.length) := fun k => by
    have := (decR_at (k := k) hsz).1
    rw [hdr] at this; exact this
  have hrest : ∀ k, (decR ((szs (partsNet l p)).drop l.length) k).2 = k / p.nx.length := fun k => by
    have := (decR_at (k := k) hsz).2
    rw [hdr] at this; exact this
  have hE : ∀ i letter j, j ∈ bNext l triv p i letter ↔ j ∈ nexts (partsNet l p) (dec (szs (partsNet l p)) i) letter := fun i letter j => by
    have hlen : (dec (szs (partsNet l p)) i).length = l.length + 1 := by rw [dec, decR_length, szs_len]; rfl
    unfold nexts
    rw [hlen]
    have hc : ∀ q, choices (partsNet l p) l.length q letter = [aGo p q letter] := fun q => choices_a (n := partsNet l p) (Nat.le_refl _) (by simp [partsNet]) q letter
    have hpart := nexts_parts hn i letter l.length (Nat.le_refl _)
    rw [hrest] at hpart
    have htk : (partsNet l p).ps.take l.length = l := List.take_length
    rw [htk] at hpart
    simp only [nextsUp, List.mem_flatMap, hdig, Option.getD_some, hc, List.map_cons, List.map_nil, List.mem_singleton, hsz]
    unfold bNext bRest
    simp only [aGo_triv]
    have e1 : i / (p.nx.length : Int) / (triv.nx.length : Int) = i / p.nx.length := by simp [triv]
    have e2 : i / (p.nx.length : Int) % (triv.nx.length : Int) = 0 := by simp [triv, Int.emod_one]
    have e3 : (triv.nx.length : Int) = 1 := rfl
    rw [e1, e2, e3]
    simp only [List.mem_map, Int.mul_one, Int.zero_mul, Int.zero_add]
    constructor
    · rintro ⟨x, hx, rfl⟩; exact ⟨x, (hpart x).2 hx, rfl⟩
    · rintro ⟨x, hx, rfl⟩; exact ⟨x, (hpart x).1 hx, rfl⟩
  have hG : ∀ i, bGoal triv p i = true ↔ netG (partsNet l p) i := fun i => by
    unfold netG foundAt bGoal
    have e2 : i / (p.nx.length : Int) % (triv.nx.length : Int) = 0 := by simp [triv, Int.emod_one]
    rw [e2]
    have e4 : (partsNet l p).ps.length = l.length := rfl
    have e5 : (partsNet l p).as[0]? = some p := rfl
    have e6 : (partsNet l p).md = 3 := rfl
    simp only [e6, okAt, e5, e4, Nat.add_zero, hdig, Option.getD_some]
    simp [triv]
  unfold firstN
  refine firstOf_congr (by show letters _ = letters _; rw [hal]; rfl) (letters_6 _) (inN (partsNet l p)) (fun i hi => ?_) (fun i lt j hi hl2 hj => ?_) (fun i => ?_) (fun i lt j hi hl2 => hE i lt j) (fun i hi => hG i)
  · have : i = 0 := by simpa [bSys] using hi
    subst this
    have := enc_in hn (zero_vec hn)
    rw [enc_zero] at this
    exact this
  · exact (nexts_in hn hi.1 (letters_6 _ lt hl2)).2 j ((hE i lt j).1 hj)
  · show i ∈ [(0 : Int)] ↔ i = enc (szs (partsNet l p)) (partsNet l p).st
    have : (partsNet l p).st = List.replicate ((partsNet l p).ps.length + (partsNet l p).as.length) 0 := rfl
    rw [this, enc_zero]; simp
theorem viol_parts {l : List Ts} {p : Au} (hl : ∀ s ∈ l, s.ed.length ≤ 1048576) : violW l p = if (partsOk l && autOk p) = true then firstOf (bSys l triv p) else none := by
  unfold violW
  by_cases h : (partsOk l && autOk p) = true
  · rw [if_pos h, if_pos h]
    rw [Bool.and_eq_true] at h
    exact (first_parts hl h.1 h.2).symm
  · rw [if_neg h, if_neg h]
end AG
end
section
/- The laws' measures, marks and readings, as plain Lean. -/
namespace AG
def szL (n : Nat) (k : Int) : Int := if k - n < 0 then -1 else k - n
def szAll : List Nat → Int → Int
  | [], k => k
  | n :: r, k => if szL n k < 0 then -1 else szAll r (szL n k)
def szNest (xs : List Nat) (k : Int) : Int := if k - xs.length < 0 then -1 else szAll xs (k - xs.length)
theorem szL_ok {n : Nat} {k : Int} (h : ¬ szL n k < 0) : (n : Int) ≤ k ∧ 0 ≤ szL n k ∧ szL n k ≤ k := by
  unfold szL at *; split at h <;> omega
theorem szAll_ok : ∀ {xs : List Nat} {k : Int}, ¬ szAll xs k < 0 → (∀ n ∈ xs, (n : Int) ≤ k) ∧ 0 ≤ szAll xs k ∧ szAll xs k ≤ k
  | [], k, h => by simp only [szAll] at *; exact ⟨by simp, by omega, by omega⟩
  | n :: r, k, h => by
    simp only [szAll] at h ⊢
    by_cases hn : szL n k < 0
    · rw [if_pos hn] at h; omega
    · rw [if_neg hn] at h ⊢
      obtain ⟨h1, h2, h3⟩ := szL_ok hn
      obtain ⟨h4, h5, h6⟩ := szAll_ok h
      refine ⟨fun m hm => ?_, h5, by omega⟩
      rcases List.mem_cons.1 hm with rfl | hm
      · exact h1
      · have := h4 m hm; omega
theorem szNest_ok {xs : List Nat} {k : Int} (h : ¬ szNest xs k < 0) : (xs.length : Int) ≤ k ∧ (∀ n ∈ xs, (n : Int) ≤ k) ∧ 0 ≤ szNest xs k ∧ szNest xs k ≤ k := by
  unfold szNest at *
  by_cases hn : k - (xs.length : Int) < 0
  · rw [if_pos hn] at h; omega
  · rw [if_neg hn] at h ⊢
    obtain ⟨h1, h2, h3⟩ := szAll_ok h
    exact ⟨by omega, fun n hm => by have := h1 n hm; omega, h2, by omega⟩
def szAut (p : Au) (k : Int) : Int := if szNest (p.nx.map List.length) k < 0 then -1 else szL p.ac.length (szNest (p.nx.map List.length) k)
def szSys (l : List Ts) (k : Int) : Int := szNest (l.map fun s => s.ed.length) k
theorem szSys_ok {l : List Ts} {k : Int} (h : ¬ szSys l k < 0) : (l.length : Int) ≤ k ∧ (∀ s ∈ l, (s.ed.length : Int) ≤ k) ∧ 0 ≤ szSys l k ∧ szSys l k ≤ k := by
  obtain ⟨h1, h2, h3⟩ := szNest_ok h
  exact ⟨by simpa using h1, fun s hs => h2 _ (List.mem_map.2 ⟨s, hs, rfl⟩), h3⟩
theorem szAut_ok {p : Au} {k : Int} (h : ¬ szAut p k < 0) : (p.nx.length : Int) ≤ k ∧ (∀ r ∈ p.nx, (r.length : Int) ≤ k) ∧ (p.ac.length : Int) ≤ k := by
  unfold szAut at h
  split at h
  · omega
  · rename_i h0
    obtain ⟨h1, h2, h3⟩ := szNest_ok h0
    have := szL_ok h
    exact ⟨by simpa using h1, fun r hr => h2 _ (List.mem_map.2 ⟨r, hr, rfl⟩), by omega⟩
/-- Edges that bear the marks k, k + 1, .. -/
def mkE (k : Int) : Nat → List Ed
  | 0 => []
  | n + 1 => mkE k n ++ [⟨k + 3 * n, k + 3 * n + 1, k + 3 * n + 2⟩]
theorem mkE_length (k : Int) : ∀ n, (mkE k n).length = n
  | 0 => rfl
  | n + 1 => by simp [mkE, mkE_length k n]
theorem mkE_get (k : Int) {n i : Nat} (h : i < n) : (mkE k n)[i]? = some ⟨k + 3 * i, k + 3 * i + 1, k + 3 * i + 2⟩ := by
  induction n with
  | zero => omega
  | succ n ih =>
    simp only [mkE]
    by_cases hi : i < n
    · rw [List.getElem?_append_left (by rw [mkE_length]; exact hi)]; exact ih hi
    · have : i = n := by omega
      subst this
      rw [List.getElem?_append_right (by rw [mkE_length]; omega), mkE_length]; simp
end AG
end
