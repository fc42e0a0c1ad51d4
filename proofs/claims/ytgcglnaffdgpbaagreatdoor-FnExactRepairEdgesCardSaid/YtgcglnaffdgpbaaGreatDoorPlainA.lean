/- Plain Lean, no program in sight: what the law and the functions under it compute. -/
section
/- The data of the program as plain Lean: edges, systems, automata. No program stands here. -/
namespace AG
structure Ed where
  fr : Int
  le : Int
  to : Int
  deriving DecidableEq, Inhabited
structure Ts where
  al : Int
  st : Int
  ed : List Ed
  deriving DecidableEq, Inhabited
structure Au where
  al : Int
  nx : List (List Int)
  ac : List Bool
  deriving DecidableEq, Inhabited
end AG
end
section
/- Alphabets and letters, as plain Lean. -/
namespace AG
def isAlpha (a : Int) : Bool := decide (0 ≤ a ∧ a ≤ 63)
/-- The set a has the number n. -/
def hasL (a n : Int) : Bool := decide (0 ≤ n ∧ a / 2 ^ n.toNat % 2 = 1)
def lettersUp (a : Int) (k : Nat) : List Int := ((List.range k).filter fun i : Nat => hasL a i).map Int.ofNat
def letters (a : Int) : List Int := lettersUp a 6
theorem and_one {x : Int} (h : 0 ≤ x) : (((x.toNat &&& Int.toNat 1 : Nat) : Int) = 1) = (x % 2 = 1) := by
  obtain ⟨n, rfl⟩ := Int.eq_ofNat_of_zero_le h
  have : Int.toNat 1 = 1 := rfl
  rw [this, Int.toNat_natCast, Nat.and_one_is_mod]
  apply propext
  omega
theorem and_oneB {x : Int} (h : 0 ≤ x) : decide (((x.toNat &&& Int.toNat 1 : Nat) : Int) = 1) = decide (x % 2 = 1) := by
  rw [Bool.eq_iff_iff]; simp only [decide_eq_true_eq]; rw [and_one h]
theorem shr_nonneg {a : Int} (h : 0 ≤ a) (n : Nat) : 0 ≤ a / 2 ^ n := Int.ediv_nonneg h (Int.le_of_lt (Int.pow_pos (by decide)))
theorem shr_le {a : Int} (h : 0 ≤ a) (n : Nat) : a / 2 ^ n ≤ a := Int.ediv_le_self _ h
theorem lettersUp_succ (a : Int) (k : Nat) : lettersUp a (k + 1) = lettersUp a k ++ if hasL a k then [(k : Int)] else [] := by
  unfold lettersUp
  rw [List.range_succ, List.filter_append, List.map_append]
  congr 1
  by_cases h : hasL a k = true <;> simp [h]
theorem lettersUp_length (a : Int) (k : Nat) : (lettersUp a k).length ≤ k := by
  unfold lettersUp
  rw [List.length_map]
  exact Nat.le_trans (List.length_filter_le _ _) (by simp)
end AG
end
section
/- Validity of edges, systems, automata and lists of parts, as plain Lean. -/
namespace AG
def edOk (al st : Int) (e : Ed) : Bool := decide (0 ≤ e.fr ∧ e.fr < st ∧ 0 ≤ e.to ∧ e.to < st) && decide (0 ≤ e.le ∧ e.le < 6) && hasL al e.le
def edLt (e f : Ed) : Bool := bif decide (e.fr = f.fr) then (bif decide (e.le = f.le) then decide (e.to < f.to) else decide (e.le < f.le)) else decide (e.fr < f.fr)
def edAt (s : Ts) (i : Nat) : Bool := match s.ed[i]? with
  | some e => edOk s.al s.st e && (decide (i = 0) || match s.ed[i - 1]? with | some d => edLt d e | none => false)
  | none => false
def sysOk (s : Ts) : Bool := isAlpha s.al && decide (1 ≤ s.st ∧ s.st ≤ 16) && (List.range s.ed.length).all (edAt s)
def inB (n : Nat) (x : Int) : Bool := decide (0 ≤ x ∧ x < n)
def rowOk (k : Nat) (n : Nat) (row : List Int) : Bool := decide (row.length = k) && row.all (inB n)
def autOk (a : Au) : Bool := isAlpha a.al && decide (1 ≤ a.nx.length ∧ a.nx.length ≤ 12) && decide (a.ac.length = a.nx.length) && a.nx.all (rowOk (letters a.al).length a.nx.length)
def lor (x y : Int) : Int := ((x.toNat ||| y.toNat : Nat) : Int)
def alOf (l : List Ts) : Int := l.foldl (fun x s => lor x s.al) 0
def partsOk (l : List Ts) : Bool := decide (1 ≤ l.length ∧ l.length ≤ 3) && l.all sysOk
def partsAl (l : List Ts) : Int := bif partsOk l then alOf l else -1
theorem all_range_succ {p : Nat → Bool} {n : Nat} : (List.range (n + 1)).all p = ((List.range n).all p && p n) := by
  rw [List.range_succ, List.all_append]; simp
theorem all_take_succ {α : Type} {p : α → Bool} {l : List α} {i : Nat} {x : α} (h : l[i]? = some x) : (l.take (i + 1)).all p = ((l.take i).all p && p x) := by
  rw [List.take_add_one, h]; simp
theorem all_false {α : Type} {p : α → Bool} {l : List α} {i : Nat} {x : α} (h : l[i]? = some x) (hp : p x = false) : l.all p = false := by
  rw [List.all_eq_false]; exact ⟨x, List.mem_of_getElem? h, by simp [hp]⟩
theorem all_range_false {p : Nat → Bool} {n i : Nat} (h : i < n) (hp : p i = false) : (List.range n).all p = false := by
  rw [List.all_eq_false]; exact ⟨i, by simpa using h, by simp [hp]⟩
theorem lor_le {x y : Int} (hx : 0 ≤ x ∧ x ≤ 63) (hy : 0 ≤ y ∧ y ≤ 63) : 0 ≤ lor x y ∧ lor x y ≤ 63 := by
  have : x.toNat ||| y.toNat < 2 ^ 6 := Nat.or_lt_two_pow (by omega) (by omega)
  unfold lor; omega
theorem isAlpha_iff {a : Int} : isAlpha a = true ↔ 0 ≤ a ∧ a ≤ 63 := by simp [isAlpha]
theorem sysOk_al {s : Ts} (h : sysOk s = true) : 0 ≤ s.al ∧ s.al ≤ 63 := by
  simp only [sysOk, Bool.and_eq_true] at h; exact isAlpha_iff.1 h.1.1
theorem alOf_take {l : List Ts} {i : Nat} {s : Ts} (h : l[i]? = some s) : alOf (l.take (i + 1)) = lor (alOf (l.take i)) s.al := by
  unfold alOf; rw [List.take_add_one, h]; simp
theorem alOf_le : ∀ {l : List Ts}, l.all sysOk = true → 0 ≤ alOf l ∧ alOf l ≤ 63 := by
  have key : ∀ (l : List Ts) (x : Int), 0 ≤ x ∧ x ≤ 63 → l.all sysOk = true → 0 ≤ l.foldl (fun x s => lor x s.al) x ∧ l.foldl (fun x s => lor x s.al) x ≤ 63 := by
    intro l
    induction l with
    | nil => intro x hx _; exact hx
    | cons s r ih =>
      intro x hx h
      simp only [List.all_cons, Bool.and_eq_true] at h
      exact ih _ (lor_le hx (sysOk_al h.1)) h.2
  exact fun {l} h => key l 0 (by omega) h
end AG
end
section
/- Steps of automata; dropping an edge, as plain Lean. -/
namespace AG
def place (a n : Int) : Nat := (lettersUp a n.toNat).length
def aGo (a : Au) (q l : Int) : Int := bif hasL a.al l then ((a.nx[q.toNat]?.getD [])[place a.al l]?).getD 0 else q
def dropAt (s : Ts) (k : Nat) : Ts := ⟨s.al, s.st, s.ed.take k ++ s.ed.drop (k + 1)⟩
theorem lettersUp_le (a : Int) {i k : Nat} (h : i ≤ k) : (lettersUp a i).length ≤ (lettersUp a k).length := by
  induction k with
  | zero => have : i = 0 := by omega
            subst this; exact Nat.le_refl _
  | succ k ih =>
    by_cases hik : i = k + 1
    · subst hik; exact Nat.le_refl _
    · rw [lettersUp_succ]; simp; have := ih (by omega); omega
theorem place_lt {a l : Int} (hl : 0 ≤ l ∧ l < 6) (h : hasL a l = true) : place a l < (letters a).length := by
  have h1 := lettersUp_succ a l.toNat
  have h3 : ((l.toNat : Nat) : Int) = l := by omega
  rw [h3, h, if_pos rfl] at h1
  have h2 := lettersUp_le a (show l.toNat + 1 ≤ 6 by omega)
  rw [h1] at h2
  unfold place letters
  simp at h2; omega
theorem autOk_row {a : Au} (h : autOk a = true) {q : Nat} (hq : q < a.nx.length) : ∃ r, a.nx[q]? = some r ∧ r.length = (letters a.al).length ∧ ∀ x ∈ r, 0 ≤ x ∧ x < a.nx.length := by
  obtain ⟨r, hr⟩ : ∃ r, a.nx[q]? = some r := ⟨_, List.getElem?_eq_getElem hq⟩
  simp only [autOk, Bool.and_eq_true, List.all_eq_true] at h
  have := h.2 r (List.mem_of_getElem? hr)
  simp only [rowOk, Bool.and_eq_true, List.all_eq_true, decide_eq_true_eq, inB] at this
  exact ⟨r, hr, this.1, this.2⟩
theorem autOk_al {a : Au} (h : autOk a = true) : 0 ≤ a.al ∧ a.al ≤ 63 := by
  simp only [autOk, Bool.and_eq_true] at h; exact isAlpha_iff.1 h.1.1.1
theorem aGo_in {a : Au} (h : autOk a = true) {q l : Int} (hq : 0 ≤ q ∧ q < a.nx.length) (hl : 0 ≤ l ∧ l < 6) : 0 ≤ aGo a q l ∧ aGo a q l < a.nx.length := by
  unfold aGo
  cases hh : hasL a.al l with
  | false => exact hq
  | true =>
    obtain ⟨r, hr, hrl, hin⟩ := autOk_row h (q := q.toNat) (by omega)
    have hp := place_lt hl hh
    obtain ⟨x, hx⟩ : ∃ x, r[place a.al l]? = some x := ⟨_, List.getElem?_eq_getElem (by omega)⟩
    simp only [cond_true, hr, Option.getD_some, hx]
    exact hin x (List.mem_of_getElem? hx)
end AG
end
section
/- The network that the spec searches, as plain Lean. -/
namespace AG
structure Nt where
  ps : List Ts
  as : List Au
  st : List Int
  al : Int
  md : Int
  x : Int
def szs (n : Nt) : List Int := n.ps.map (·.st) ++ n.as.map fun a => (a.nx.length : Int)
def enc (sz st : List Int) : Int := (sz.zip st).foldl (fun n p => n * p.1 + p.2) 0
/-- The digits, and what is left. -/
def decR : List Int → Int → List Int × Int
  | [], n => ([], n)
  | s :: r, n => ((decR r n).2 % s :: (decR r n).1, (decR r n).2 / s)
def dec (sz : List Int) (n : Int) : List Int := (decR sz n).1
def inL (l : List Int) (n : Int) : Bool := l.any fun x => decide (x = n)
def nearRow (dist : List Int) (d : Int) (row : List Int) : Bool := row.any fun x => decide (dist[x.toNat]? = some d)
def near (mv : List (List Int)) (dist : List Int) (d : Int) : Bool := mv.any (nearRow dist d)
def choices (n : Nt) (i : Nat) (q l : Int) : List Int := match n.ps[i]? with
  | some s => bif hasL s.al l then (s.ed.filter fun e => decide (e.fr = q) && decide (e.le = l)).map (·.to) else [q]
  | none => match n.as[i - n.ps.length]? with
    | some a => [aGo a q l]
    | none => []
end AG
end
section
/- What is asked of a network; its numbers. -/
namespace AG
structure NtOk (n : Nt) : Prop where
  ps : ∀ s ∈ n.ps, sysOk s = true ∧ s.ed.length ≤ 1048576
  as : ∀ a ∈ n.as, autOk a = true
  lp : n.ps.length ≤ 3
  la : n.as.length ≤ 2
  al : 0 ≤ n.al ∧ n.al ≤ 63
theorem sysOk_ed {s : Ts} (h : sysOk s = true) : ∀ e ∈ s.ed, edOk s.al s.st e = true := by
  intro e he
  obtain ⟨i, hi⟩ := List.getElem?_of_mem he
  simp only [sysOk, Bool.and_eq_true, List.all_eq_true, List.mem_range] at h
  have := h.2 i (List.getElem?_eq_some_iff.1 hi).1
  simp only [edAt, hi, Bool.and_eq_true] at this
  exact this.1
theorem sysOk_st {s : Ts} (h : sysOk s = true) : 1 ≤ s.st ∧ s.st ≤ 16 := by
  simp only [sysOk, Bool.and_eq_true, decide_eq_true_eq] at h
  exact h.1.2
theorem autOk_len {a : Au} (h : autOk a = true) : 1 ≤ a.nx.length ∧ a.nx.length ≤ 12 ∧ a.ac.length = a.nx.length := by
  simp only [autOk, Bool.and_eq_true, decide_eq_true_eq] at h
  exact ⟨h.1.1.2.1, h.1.1.2.2, h.1.2⟩
/-- The letters' steps of one part. -/
def succs (s : Ts) (q l : Int) : List Int := (s.ed.filter fun e => decide (e.fr = q) && decide (e.le = l)).map (·.to)
theorem choices_p {n : Nt} {i : Nat} {s : Ts} (h : n.ps[i]? = some s) (q l : Int) : choices n i q l = bif hasL s.al l then succs s q l else [q] := by
  simp only [choices, h]; rfl
theorem choices_a {n : Nt} {i : Nat} {a : Au} (h : n.ps.length ≤ i) (ha : n.as[i - n.ps.length]? = some a) (q l : Int) : choices n i q l = [aGo a q l] := by
  simp only [choices, List.getElem?_eq_none h, ha]
theorem decR_drop {sz : List Int} {k : Nat} {s : Int} (h : sz[k]? = some s) (n : Int) : decR (sz.drop k) n = ((decR (sz.drop (k + 1)) n).2 % s :: (decR (sz.drop (k + 1)) n).1, (decR (sz.drop (k + 1)) n).2 / s) := by
  have hlt : k < sz.length := (List.getElem?_eq_some_iff.1 h).1
  have : sz.drop k = s :: sz.drop (k + 1) := by
    rw [List.drop_eq_getElem_cons hlt]
    congr 1
    have := (List.getElem?_eq_some_iff.1 h).2
    exact this
  rw [this]; rfl
theorem decR_nonneg {sz : List Int} (h : ∀ s ∈ sz, 0 < s) {n : Int} (hn : 0 ≤ n) : 0 ≤ (decR sz n).2 ∧ (decR sz n).2 ≤ n := by
  induction sz with
  | nil => exact ⟨hn, Int.le_refl _⟩
  | cons s r ih =>
    have h1 := ih fun x hx => h x (by simp [hx])
    have hs := h s (by simp)
    refine ⟨Int.ediv_nonneg h1.1 (by omega), Int.le_trans (Int.ediv_le_self _ h1.1) h1.2⟩
theorem decR_length (sz : List Int) (n : Int) : (decR sz n).1.length = sz.length := by
  induction sz with
  | nil => rfl
  | cons s r ih => simp [decR, ih]
end AG
end
section
/- Bounds of the search: how many choices, how large the numbers of nodes. -/
namespace AG
theorem edLt_iff {a b : Ed} : edLt a b = true ↔ a.fr < b.fr ∨ (a.fr = b.fr ∧ (a.le < b.le ∨ (a.le = b.le ∧ a.to < b.to))) := by
  unfold edLt
  by_cases h1 : a.fr = b.fr <;> by_cases h2 : a.le = b.le <;> simp [h1, h2]
theorem edLt_trans {a b c : Ed} (h : edLt a b = true) (k : edLt b c = true) : edLt a c = true := by
  rw [edLt_iff] at *; omega
theorem sysOk_sorted {s : Ts} (h : sysOk s = true) : s.ed.Pairwise fun a b => edLt a b = true := by
  simp only [sysOk, Bool.and_eq_true, List.all_eq_true, List.mem_range] at h
  have hstep : ∀ i d e, s.ed[i]? = some d → s.ed[i + 1]? = some e → edLt d e = true := by
    intro i d e hd he
    have := h.2 (i + 1) (List.getElem?_eq_some_iff.1 he).1
    simp only [edAt, he, Nat.add_sub_cancel, hd, Bool.and_eq_true, Bool.or_eq_true, decide_eq_true_eq] at this
    rcases this.2 with h1 | h1
    · omega
    · exact h1
  have key : ∀ (l : List Ed), (∀ i d e, l[i]? = some d → l[i + 1]? = some e → edLt d e = true) → l.Pairwise fun a b => edLt a b = true := by
    intro l
    induction l with
    | nil => intro _; exact List.Pairwise.nil
    | cons a r ih =>
      intro hs
      have hr := ih fun i d e hd he => hs (i + 1) d e (by simpa using hd) (by simpa using he)
      refine List.pairwise_cons.2 ⟨fun b hb => ?_, hr⟩
      cases r with
      | nil => cases hb
      | cons c r =>
        have h1 := hs 0 a c rfl rfl
        rcases List.mem_cons.1 hb with rfl | hb
        · exact h1
        · exact edLt_trans h1 ((List.pairwise_cons.1 hr).1 b hb)
  exact key s.ed hstep
theorem succs_sorted {s : Ts} (h : sysOk s = true) (q l : Int) : (succs s q l).Pairwise (· < ·) := by
  unfold succs
  rw [List.pairwise_map]
  have h1 : (s.ed.filter fun e => decide (e.fr = q) && decide (e.le = l)).Pairwise fun a b => edLt a b = true := (sysOk_sorted h).sublist List.filter_sublist
  refine h1.imp_of_mem fun {a b} ha hb hab => ?_
  simp only [List.mem_filter, Bool.and_eq_true, decide_eq_true_eq] at ha hb
  simp only [edLt, ha.2.1, hb.2.1, ha.2.2, hb.2.2, decide_true, cond_true, decide_eq_true_eq] at hab
  exact hab
theorem succs_in {s : Ts} (h : sysOk s = true) {q l x : Int} (hx : x ∈ succs s q l) : 0 ≤ x ∧ x < s.st := by
  simp only [succs, List.mem_map, List.mem_filter] at hx
  obtain ⟨e, ⟨he, _⟩, rfl⟩ := hx
  have := sysOk_ed h e he
  simp only [edOk, Bool.and_eq_true, decide_eq_true_eq] at this
  omega
theorem sorted_len {l : List Int} {a b : Int} (hab : a ≤ b) (h : l.Pairwise (· < ·)) (hin : ∀ x ∈ l, a ≤ x ∧ x < b) : (l.length : Int) ≤ b - a := by
  induction l generalizing a with
  | nil => simp; omega
  | cons x r ih =>
    obtain ⟨h1, h2⟩ := List.pairwise_cons.1 h
    have hx := hin x (by simp)
    have := ih (a := x + 1) (by omega) h2 fun y hy => ⟨by have := h1 y hy; omega, (hin y (by simp [hy])).2⟩
    simp only [List.length_cons]; omega
theorem succs_len {s : Ts} (h : sysOk s = true) (q l : Int) : (succs s q l).length ≤ 16 := by
  have h1 := sysOk_st h
  have := sorted_len (a := 0) (b := s.st) (by omega) (succs_sorted h q l) fun x hx => succs_in h hx
  omega
/-- A vector of states. -/
structure Vec (n : Nt) (q : List Int) : Prop where
  len : q.length = n.ps.length + n.as.length
  val : ∀ (i : Nat) x, q[i]? = some x → ∃ s, (szs n)[i]? = some s ∧ 0 ≤ x ∧ x < s
theorem szs_len (n : Nt) : (szs n).length = n.ps.length + n.as.length := by simp [szs]
theorem szs_p {n : Nt} {i : Nat} {s : Ts} (h : n.ps[i]? = some s) : (szs n)[i]? = some s.st := by
  have : i < n.ps.length := (List.getElem?_eq_some_iff.1 h).1
  simp only [szs]
  rw [List.getElem?_append_left (by simpa using this)]
  simp [h]
theorem szs_a {n : Nt} {i : Nat} {a : Au} (hi : n.ps.length ≤ i) (h : n.as[i - n.ps.length]? = some a) : (szs n)[i]? = some (a.nx.length : Int) := by
  simp only [szs]
  rw [List.getElem?_append_right (by simpa using hi)]
  simp [h]
theorem comp_cases (n : Nt) {i : Nat} (hi : i < n.ps.length + n.as.length) : (∃ s, n.ps[i]? = some s) ∨ (n.ps.length ≤ i ∧ ∃ a, n.as[i - n.ps.length]? = some a) := by
  by_cases h : i < n.ps.length
  · exact .inl ⟨_, List.getElem?_eq_getElem h⟩
  · exact .inr ⟨by omega, _, List.getElem?_eq_getElem (by omega)⟩
theorem szs_le {n : Nt} (hn : NtOk n) {i : Nat} {s : Int} (h : (szs n)[i]? = some s) : 1 ≤ s ∧ s ≤ 16 := by
  have hi : i < n.ps.length + n.as.length := by rw [← szs_len]; exact (List.getElem?_eq_some_iff.1 h).1
  rcases comp_cases n hi with ⟨p, hp⟩ | ⟨hle, a, ha⟩
  · rw [szs_p hp] at h; cases h; exact sysOk_st (hn.ps p (List.mem_of_getElem? hp)).1
  · rw [szs_a hle ha] at h; cases h
    have := autOk_len (hn.as a (List.mem_of_getElem? ha)); omega
theorem choices_in {n : Nt} (hn : NtOk n) {q : List Int} (hq : Vec n q) {i : Nat} {x s : Int} (hx : q[i]? = some x) (hs : (szs n)[i]? = some s) {l : Int} (hl : 0 ≤ l ∧ l < 6) : (choices n i x l).length ≤ 16 ∧ ∀ c ∈ choices n i x l, 0 ≤ c ∧ c < s := by
  have hi : i < n.ps.length + n.as.length := by rw [← hq.len]; exact (List.getElem?_eq_some_iff.1 hx).1
  obtain ⟨s', hs', h0, h1⟩ := hq.val i x hx
  rw [hs] at hs'; cases hs'
  rcases comp_cases n hi with ⟨p, hp⟩ | ⟨hle, a, ha⟩
  · rw [choices_p hp]
    rw [szs_p hp] at hs; cases hs
    have hok := (hn.ps p (List.mem_of_getElem? hp)).1
    cases hasL p.al l with
    | true => exact ⟨succs_len hok x l, fun c hc => succs_in hok hc⟩
    | false => exact ⟨by simp, fun c hc => by simp at hc; subst hc; exact ⟨h0, h1⟩⟩
  · rw [choices_a hle ha]
    rw [szs_a hle ha] at hs; cases hs
    exact ⟨by simp, fun c hc => by simp at hc; subst hc; exact aGo_in (hn.as a (List.mem_of_getElem? ha)) ⟨h0, h1⟩ hl⟩
def okAt (n : Nt) (q : List Int) (i : Nat) : Bool := match n.as[i]? with
  | some a => ((q[n.ps.length + i]?).bind fun x => a.ac[x.toNat]?).getD false
  | none => false
def nextsUp (n : Nt) (q : List Int) (l : Int) : Nat → List Int
  | 0 => [0]
  | i + 1 => (nextsUp n q l i).flatMap fun o => (choices n i (q[i]?.getD 0) l).map fun c => o * ((szs n)[i]?.getD 0) + c
def prd (n : Nt) : Nat → Int
  | 0 => 1
  | i + 1 => prd n i * (szs n)[i]?.getD 0
theorem prd_pos {n : Nt} (hn : NtOk n) : ∀ {i : Nat}, i ≤ n.ps.length + n.as.length → 1 ≤ prd n i ∧ prd n i ≤ 16 ^ i
  | 0, _ => by simp [prd]
  | i + 1, h => by
    have ih := prd_pos hn (i := i) (by omega)
    obtain ⟨s, hs⟩ : ∃ s, (szs n)[i]? = some s := ⟨_, List.getElem?_eq_getElem (by rw [szs_len]; omega)⟩
    have h1 := szs_le hn hs
    simp only [prd, hs, Option.getD_some]
    refine ⟨?_, ?_⟩
    · have := Int.mul_le_mul ih.1 h1.1 (by omega) (by omega); omega
    · rw [Int.pow_succ]; exact Int.mul_le_mul ih.2 h1.2 (by omega) (by omega)
theorem nextsUp_in {n : Nt} (hn : NtOk n) {q : List Int} (hq : Vec n q) {l : Int} (hl : 0 ≤ l ∧ l < 6) : ∀ {i : Nat}, i ≤ n.ps.length + n.as.length → (nextsUp n q l i).length ≤ 16 ^ i ∧ ∀ x ∈ nextsUp n q l i, 0 ≤ x ∧ x < prd n i
  | 0, _ => by simp [nextsUp, prd]
  | i + 1, h => by
    have ih := nextsUp_in hn hq hl (i := i) (by omega)
    obtain ⟨s, hs⟩ : ∃ s, (szs n)[i]? = some s := ⟨_, List.getElem?_eq_getElem (by rw [szs_len]; omega)⟩
    obtain ⟨x, hx⟩ : ∃ x, q[i]? = some x := ⟨_, List.getElem?_eq_getElem (by rw [hq.len]; omega)⟩
    have hc := choices_in hn hq hx hs hl
    simp only [nextsUp, prd, hs, hx, Option.getD_some]
    refine ⟨?_, fun y hy => ?_⟩
    · have key : ∀ (L : List Int), (L.flatMap fun o => (choices n i x l).map fun c => o * s + c).length ≤ L.length * 16 := by
        intro L
        induction L with
        | nil => simp
        | cons o L ihL => simp only [List.flatMap_cons, List.length_append, List.length_map, List.length_cons]; have := hc.1; omega
      have := key (nextsUp n q l i)
      rw [Nat.pow_succ]; have := ih.1; omega
    · simp only [List.mem_flatMap, List.mem_map] at hy
      obtain ⟨o, ho, c, hcc, rfl⟩ := hy
      have h1 := ih.2 o ho
      have h2 := hc.2 c hcc
      have h3 : 0 ≤ o * s := Int.mul_nonneg h1.1 (by omega)
      have h4 : (o + 1) * s ≤ prd n i * s := Int.mul_le_mul_of_nonneg_right (by omega) (by omega)
      rw [Int.add_mul, Int.one_mul] at h4
      omega
def nexts (n : Nt) (q : List Int) (l : Int) : List Int := nextsUp n q l q.length
def total (n : Nt) : Int := prd n (n.ps.length + n.as.length)
theorem pow16 {i : Nat} (h : i ≤ 5) : (16 : Int) ^ i ≤ 1048576 ∧ 16 ^ i ≤ 1048576 := by
  have : i = 0 ∨ i = 1 ∨ i = 2 ∨ i = 3 ∨ i = 4 ∨ i = 5 := by omega
  rcases this with rfl | rfl | rfl | rfl | rfl | rfl <;> exact ⟨by decide, by decide⟩
theorem dec_val : ∀ {sz : List Int} {n : Int}, 0 ≤ n → (∀ s ∈ sz, 0 < s) → ∀ (i : Nat) x, (decR sz n).1[i]? = some x → ∃ s, sz[i]? = some s ∧ 0 ≤ x ∧ x < s
  | [], _, _, _, i, x, h => by simp [decR] at h
  | s :: r, n, hn, hz, i, x, h => by
    have h1 := decR_nonneg (sz := r) (fun y hy => hz y (by simp [hy])) hn
    have hs := hz s (by simp)
    cases i with
    | zero =>
      simp only [decR, List.getElem?_cons_zero, Option.some.injEq] at h
      subst h
      exact ⟨s, rfl, Int.emod_nonneg _ (by omega), Int.emod_lt_of_pos _ hs⟩
    | succ i =>
      simp only [decR, List.getElem?_cons_succ] at h
      obtain ⟨t, ht, h2⟩ := dec_val hn (fun y hy => hz y (by simp [hy])) i x h
      exact ⟨t, by simpa using ht, h2⟩
theorem szs_pos {n : Nt} (hn : NtOk n) : ∀ s ∈ szs n, 0 < s := fun s hs => by
  obtain ⟨i, hi⟩ := List.getElem?_of_mem hs
  have := szs_le hn hi; omega
theorem dec_vec {n : Nt} (hn : NtOk n) {k : Int} (hk : 0 ≤ k) : Vec n (dec (szs n) k) := ⟨by rw [dec, decR_length, szs_len], dec_val hk (szs_pos hn)⟩
theorem letters_in {a l : Int} (h : l ∈ letters a) : (0 ≤ l ∧ l < 6) ∧ hasL a l = true := by
  simp only [letters, lettersUp, List.mem_map, List.mem_filter, List.mem_range] at h
  obtain ⟨i, ⟨hi, hh⟩, rfl⟩ := h
  exact ⟨⟨by simp, by simp; omega⟩, hh⟩
def movesRow (n : Nt) (k : Nat) : List (List Int) := (letters n.al).map fun l => nexts n (dec (szs n) k) l
def moves (n : Nt) : List (List (List Int)) := (List.range (total n).toNat).map (movesRow n)
end AG
end
section
/- First words of searches: words in shortlex order by their numbers; distances backwards. No program stands here. -/
namespace AG
/-- The place of a word of letters 0 to 5 in shortlex order. -/
def num (w : List Int) : Int := w.foldl (fun n l => n * 6 + l + 1) 0
def lets (w : List Int) : Prop := ∀ l ∈ w, 0 ≤ l ∧ l < 6
theorem num_snoc (w : List Int) (l : Int) : num (w ++ [l]) = num w * 6 + l + 1 := by simp [num]
theorem lets_snoc {w : List Int} {l : Int} : lets (w ++ [l]) ↔ lets w ∧ (0 ≤ l ∧ l < 6) := by
  unfold lets
  simp only [List.mem_append, List.mem_singleton]
  exact ⟨fun h => ⟨fun x hx => h x (.inl hx), h l (.inr rfl)⟩, fun h x hx => hx.elim (h.1 x) fun e => e ▸ h.2⟩
theorem snoc_cases {α : Type} (w : List α) : w = [] ∨ ∃ u x, w = u ++ [x] := by
  rcases List.eq_nil_or_concat w with h | ⟨u, x, h⟩
  · exact .inl h
  · exact .inr ⟨u, x, by simpa using h⟩
theorem num_nonneg : ∀ (n : Nat) (w : List Int), w.length = n → lets w → 0 ≤ num w
  | 0, w, h, _ => by have : w = [] := List.eq_nil_of_length_eq_zero h
                     subst this; simp [num]
  | n + 1, w, h, hl => by
    rcases snoc_cases w with rfl | ⟨u, x, rfl⟩
    · simp [num]
    · rw [lets_snoc] at hl
      have := num_nonneg n u (by simpa using h) hl.1
      rw [num_snoc]; omega
theorem num_inj : ∀ (n : Nat) (u w : List Int), u.length = n → lets u → lets w → num u = num w → u = w
  | 0, u, w, h, hu, hw, e => by
    have : u = [] := List.eq_nil_of_length_eq_zero h
    subst this
    rcases snoc_cases w with rfl | ⟨v, x, rfl⟩
    · rfl
    · rw [lets_snoc] at hw
      have := num_nonneg _ v rfl hw.1
      rw [num_snoc] at e; simp [num] at e this; omega
  | n + 1, u, w, h, hu, hw, e => by
    rcases snoc_cases u with rfl | ⟨v, x, rfl⟩
    · simp at h
    · rw [lets_snoc] at hu
      have h1 := num_nonneg _ v rfl hu.1
      rcases snoc_cases w with rfl | ⟨v', x', rfl⟩
      · rw [num_snoc] at e; simp [num] at e h1; omega
      · rw [lets_snoc] at hw
        have h2 := num_nonneg _ v' rfl hw.1
        rw [num_snoc, num_snoc] at e
        have e1 : num v = num v' := by omega
        have e2 : x = x' := by omega
        rw [num_inj n v v' (by simpa using h) hu.1 hw.1 e1, e2]
theorem lets_cons {w : List Int} {l : Int} : lets (l :: w) ↔ (0 ≤ l ∧ l < 6) ∧ lets w := by
  unfold lets; simp
theorem num_from (w : List Int) (a : Int) : w.foldl (fun n l => n * 6 + l + 1) a = a * 6 ^ w.length + num w := by
  induction w generalizing a with
  | nil => simp [num]
  | cons l w ih =>
    simp only [List.foldl_cons, num, List.length_cons]
    rw [ih, ih (0 * 6 + l + 1), Int.pow_succ, Int.add_mul, Int.add_mul, Int.add_mul, Int.add_mul]
    have : a * 6 * 6 ^ w.length = a * (6 ^ w.length * 6) := by rw [Int.mul_assoc, Int.mul_comm 6]
    omega
theorem num_cons (l : Int) (w : List Int) : num (l :: w) = (l + 1) * 6 ^ w.length + num w := by
  show w.foldl (fun n l => n * 6 + l + 1) (0 * 6 + l + 1) = _
  rw [num_from]; congr 1; congr 1; omega
/-- The least number of a word of n letters. -/
def lo : Nat → Int
  | 0 => 0
  | n + 1 => 6 ^ n + lo n
theorem pow6 (n : Nat) : 1 ≤ (6 : Int) ^ n := by
  induction n with
  | zero => simp
  | succ n ih => rw [Int.pow_succ]; omega
theorem lo_succ (n : Nat) : lo (n + 1) = lo n * 6 + 1 ∧ 0 ≤ lo n ∧ lo n * 5 + 1 = 6 ^ n := by
  induction n with
  | zero => simp [lo]
  | succ n ih =>
    have h := pow6 n
    have e : lo (n + 1) = 6 ^ n + lo n := rfl
    have e2 : lo (n + 1 + 1) = 6 ^ (n + 1) + lo (n + 1) := rfl
    rw [Int.pow_succ] at e2 ⊢
    omega
theorem num_range (w : List Int) (h : lets w) : lo w.length ≤ num w ∧ num w < lo (w.length + 1) := by
  induction w with
  | nil => simp [num, lo]
  | cons l w ih =>
    rw [lets_cons] at h
    have h1 := ih h.2
    rw [num_cons]
    have h2 := lo_succ w.length
    have h3 := lo_succ (w.length + 1)
    have h4 := pow6 w.length
    simp only [List.length_cons]
    have e : lo (w.length + 1) = 6 ^ w.length + lo w.length := rfl
    have h5 : (1 : Int) * 6 ^ w.length ≤ (l + 1) * 6 ^ w.length := Int.mul_le_mul_of_nonneg_right (by omega) (by omega)
    have h6 : (l + 1) * 6 ^ w.length ≤ 6 * 6 ^ w.length := Int.mul_le_mul_of_nonneg_right (by omega) (by omega)
    omega
theorem num_lt_len {u w : List Int} (hu : lets u) (hw : lets w) (h : num u < num w) : u.length ≤ w.length := by
  rcases Nat.lt_or_ge w.length u.length with hl | hl
  · have h1 := num_range u hu
    have h2 := num_range w hw
    have key : ∀ m n, m ≤ n → lo m ≤ lo n := by
      intro m n hmn
      induction n with
      | zero => have : m = 0 := by omega
                subst this; exact Int.le_refl _
      | succ n ih =>
        by_cases h : m = n + 1
        · subst h; exact Int.le_refl _
        · have h1 := ih (by omega)
          have h2 := pow6 n
          have : lo (n + 1) = 6 ^ n + lo n := rfl
          omega
    have := key (w.length + 1) u.length (by omega)
    omega
  · exact hl
theorem num_lt_cons {x l : Int} {u w : List Int} (hx : 0 ≤ x ∧ x < 6) (hl : 0 ≤ l ∧ l < 6) (hu : lets u) (hw : lets w) (he : u.length = w.length) (h : num (x :: u) < num (l :: w)) : x < l ∨ (x = l ∧ num u < num w) := by
  rw [num_cons, num_cons, he] at h
  have h1 := num_range u hu
  have h2 := num_range w hw
  rw [he] at h1
  have e : lo (w.length + 1) = 6 ^ w.length + lo w.length := rfl
  have h4 := pow6 w.length
  rcases Int.lt_trichotomy x l with h5 | h5 | h5
  · exact .inl h5
  · subst h5; exact .inr ⟨rfl, by omega⟩
  · exfalso
    have : (l + 1 + 1) * 6 ^ w.length ≤ (x + 1) * 6 ^ w.length := Int.mul_le_mul_of_nonneg_right (by omega) (by omega)
    rw [Int.add_mul (l + 1) 1, Int.one_mul] at this
    omega

/-! ### Searches -/
structure Sys where
  ls : List Int
  E : Int → Int → Int → Prop
  S : Int → Prop
  G : Int → Prop
def rch (E : Int → Int → Int → Prop) (S : Int → Prop) : List Int → Int → Prop
  | [] => S
  | l :: w => rch E (fun j => ∃ i, S i ∧ E i l j) w
theorem rch_snoc {E : Int → Int → Int → Prop} : ∀ {S : Int → Prop} {w : List Int} {l : Int} {j : Int}, rch E S (w ++ [l]) j ↔ ∃ i, rch E S w i ∧ E i l j
  | S, [], l, j => Iff.rfl
  | S, x :: w, l, j => rch_snoc (S := fun j => ∃ i, S i ∧ E i x j) (w := w)
theorem rch_mono {E E' : Int → Int → Int → Prop} (hE : ∀ i l j, E i l j → E' i l j) : ∀ {S S' : Int → Prop} {w : List Int} {j : Int}, (∀ i, S i → S' i) → rch E S w j → rch E' S' w j
  | _, _, [], j, hS, h => hS j h
  | _, _, l :: w, j, hS, h => rch_mono hE (w := w) (fun i ⟨k, h1, h2⟩ => ⟨k, hS k h1, hE _ _ _ h2⟩) h
def over (ls w : List Int) : Prop := ∀ l ∈ w, l ∈ ls
def hits (y : Sys) (w : List Int) : Prop := ∃ j, rch y.E y.S w j ∧ y.G j
structure IsFirst (y : Sys) (w : List Int) : Prop where
  ov : over y.ls w
  hit : hits y w
  least : ∀ u, over y.ls u → num u < num w → ¬ hits y u
open Classical in
noncomputable def firstOf (y : Sys) : Option (List Int) := if h : ∃ w, IsFirst y w then some (Classical.choose h) else none
theorem over_lets {ls w : List Int} (h : ∀ l ∈ ls, 0 ≤ l ∧ l < 6) (hw : over ls w) : lets w := fun l hl => h l (hw l hl)
theorem IsFirst.uniq {y : Sys} {u w : List Int} (hl : ∀ l ∈ y.ls, 0 ≤ l ∧ l < 6) (h : IsFirst y u) (k : IsFirst y w) : u = w := by
  rcases Int.lt_trichotomy (num u) (num w) with h1 | h1 | h1
  · exact absurd h.hit (k.least u h.ov h1)
  · exact num_inj _ u w rfl (over_lets hl h.ov) (over_lets hl k.ov) h1
  · exact absurd k.hit (h.least w k.ov h1)
theorem firstOf_some {y : Sys} {w : List Int} (hl : ∀ l ∈ y.ls, 0 ≤ l ∧ l < 6) (h : IsFirst y w) : firstOf y = some w := by
  have hx : ∃ w, IsFirst y w := ⟨w, h⟩
  unfold firstOf
  rw [dif_pos hx]
  exact congrArg some ((Classical.choose_spec hx).uniq hl h)
theorem firstOf_none {y : Sys} (h : ∀ w, over y.ls w → ¬ hits y w) : firstOf y = none := by
  unfold firstOf
  rw [dif_neg]
  rintro ⟨w, hw⟩
  exact h w hw.ov hw.hit
theorem firstOf_is {y : Sys} {w : List Int} (h : firstOf y = some w) : IsFirst y w := by
  unfold firstOf at h
  split at h
  · rename_i hx
    simp only [Option.some.injEq] at h
    subst h
    exact Classical.choose_spec hx
  · cases h
theorem first_exists {y : Sys} (hl : ∀ l ∈ y.ls, 0 ≤ l ∧ l < 6) {w : List Int} (ho : over y.ls w) (hh : hits y w) : ∃ v, IsFirst y v := by
  have key : ∀ (n : Nat) (w : List Int), over y.ls w → hits y w → (num w).toNat = n → ∃ v, IsFirst y v := by
    intro n
    induction n using Nat.strongRecOn with
    | ind n ih =>
      intro w ho hh hn
      by_cases hx : ∃ u, over y.ls u ∧ num u < num w ∧ hits y u
      · obtain ⟨u, h1, h2, h3⟩ := hx
        have := num_nonneg _ u rfl (over_lets hl h1)
        exact ih (num u).toNat (by omega) u h1 h3 rfl
      · exact ⟨w, ho, hh, fun u h1 h2 h3 => hx ⟨u, h1, h2, h3⟩⟩
  exact key _ w ho hh rfl
theorem firstOf_isSome {y : Sys} (hl : ∀ l ∈ y.ls, 0 ≤ l ∧ l < 6) : (firstOf y).isSome = true ↔ ∃ w, over y.ls w ∧ hits y w := by
  constructor
  · intro h
    obtain ⟨w, hw⟩ := Option.isSome_iff_exists.1 h
    have := firstOf_is hw
    exact ⟨w, this.ov, this.hit⟩
  · rintro ⟨w, h1, h2⟩
    obtain ⟨v, hv⟩ := first_exists hl h1 h2
    rw [firstOf_some hl hv]; rfl
/-- Only what can be reached counts. -/
theorem firstOf_congr {y z : Sys} (hls : y.ls = z.ls) (hl : ∀ l ∈ y.ls, 0 ≤ l ∧ l < 6) (V : Int → Prop) (hV : ∀ i, y.S i → V i) (hVE : ∀ i l j, V i → l ∈ y.ls → y.E i l j → V j)
    (hS : ∀ i, y.S i ↔ z.S i) (hE : ∀ i l j, V i → l ∈ y.ls → (y.E i l j ↔ z.E i l j)) (hG : ∀ i, V i → (y.G i ↔ z.G i)) : firstOf y = firstOf z := by
  have hr : ∀ (n : Nat) (w : List Int), w.length = n → over y.ls w → ∀ j, (rch y.E y.S w j → V j) ∧ (rch y.E y.S w j ↔ rch z.E z.S w j) := by
    intro n
    induction n with
    | zero =>
      intro w hw _ j
      have : w = [] := List.eq_nil_of_length_eq_zero hw
      subst this
      exact ⟨hV j, hS j⟩
    | succ n ih =>
      intro w hw ho j
      rcases snoc_cases w with rfl | ⟨u, l, rfl⟩
      · simp at hw
      · have hu : over y.ls u := fun x hx => ho x (by simp [hx])
        have hl' : l ∈ y.ls := ho l (by simp)
        have := ih u (by simpa using hw) hu
        rw [rch_snoc, rch_snoc]
        refine ⟨fun ⟨i, h1, h2⟩ => hVE i l j ((this i).1 h1) hl' h2, ?_⟩
        constructor
        · rintro ⟨i, h1, h2⟩; exact ⟨i, (this i).2.1 h1, (hE i l j ((this i).1 h1) hl').1 h2⟩
        · rintro ⟨i, h1, h2⟩
          have h3 := (this i).2.2 h1
          exact ⟨i, h3, (hE i l j ((this i).1 h3) hl').2 h2⟩
  have hh : ∀ w, over y.ls w → (hits y w ↔ hits z w) := fun w ho => by
    constructor
    · rintro ⟨j, h1, h2⟩; exact ⟨j, (hr _ w rfl ho j).2.1 h1, (hG j ((hr _ w rfl ho j).1 h1)).1 h2⟩
    · rintro ⟨j, h1, h2⟩
      have h3 := (hr _ w rfl ho j).2.2 h1
      exact ⟨j, h3, (hG j ((hr _ w rfl ho j).1 h3)).2 h2⟩
  cases hf : firstOf y with
  | some w =>
    have hw := firstOf_is hf
    exact (firstOf_some (by rw [← hls]; exact hl) ⟨by rw [← hls]; exact hw.ov, (hh w hw.ov).1 hw.hit, fun u hu hn hk => hw.least u (by rw [hls]; exact hu) hn ((hh u (by rw [hls]; exact hu)).2 hk)⟩).symm
  | none =>
    refine (firstOf_none fun w ho hk => ?_).symm
    rw [← hls] at ho
    have := (firstOf_isSome hl).2 ⟨w, ho, (hh w ho).2 hk⟩
    rw [hf] at this; cases this

/-! ### Distances backwards, and the word that goes down -/
structure DistLaw (y : Sys) (V : Int → Prop) (D : Int → Int) : Prop where
  zero : ∀ i, V i → (D i = 0 ↔ y.G i)
  down : ∀ i, V i → 0 < D i → ∃ l ∈ y.ls, ∃ j, y.E i l j ∧ D j = D i - 1
  near : ∀ i l j, V i → l ∈ y.ls → y.E i l j → 0 ≤ D j → 0 ≤ D i ∧ D i ≤ D j + 1
  ge : ∀ i, V i → -1 ≤ D i
  cl : ∀ i l j, V i → l ∈ y.ls → y.E i l j → V j
theorem DistLaw.far {y : Sys} {V : Int → Prop} {D : Int → Int} (h : DistLaw y V D) : ∀ {w : List Int} {S : Int → Prop}, over y.ls w → (∀ i, S i → V i) → ∀ {j}, rch y.E S w j → y.G j → ∃ i, S i ∧ 0 ≤ D i ∧ D i ≤ w.length
  | [], S, _, hS, j, hr, hg => ⟨j, hr, by have := (h.zero j (hS j hr)).2 hg; omega, by have := (h.zero j (hS j hr)).2 hg; simp; omega⟩
  | l :: w, S, ho, hS, j, hr, hg => by
    obtain ⟨i, ⟨k, h1, h2⟩, h3, h4⟩ := h.far (w := w) (S := fun j => ∃ i, S i ∧ y.E i l j) (fun x hx => ho x (by simp [hx])) (fun i ⟨k, h1, h2⟩ => h.cl k l i (hS k h1) (ho l (by simp)) h2) hr hg
    have := h.near k l i (hS k h1) (ho l (by simp)) h2 h3
    exact ⟨k, h1, this.1, by simp only [List.length_cons]; omega⟩
/-- A way down by the least letters. -/
inductive Down (y : Sys) (D : Int → Int) : (Int → Prop) → Nat → List Int → Prop
  | nil (A : Int → Prop) : Down y D A 0 []
  | cons {A A' : Int → Prop} {d : Nat} {l : Int} {w : List Int} (hl : l ∈ y.ls) (hA : ∀ j, A' j ↔ ∃ i, A i ∧ y.E i l j ∧ D j = d) (hx : ∃ j, A' j)
      (hlt : ∀ x ∈ y.ls, x < l → ¬ ∃ i j, A i ∧ y.E i x j ∧ D j = d) (hd : Down y D A' d w) : Down y D A (d + 1) (l :: w)
theorem Down.first {y : Sys} {V : Int → Prop} {D : Int → Int} (h : DistLaw y V D) (hls : ∀ l ∈ y.ls, 0 ≤ l ∧ l < 6) : ∀ {d : Nat} {w : List Int} {A S : Int → Prop}, Down y D A d w → (∀ i, S i → V i) → (∀ i, A i ↔ S i ∧ D i = d) → (∀ i, S i → D i = -1 ∨ (d : Int) ≤ D i) → (∃ i, A i) →
    IsFirst ⟨y.ls, y.E, S, y.G⟩ w ∧ w.length = d := by
  intro d w
  induction w generalizing d with
  | nil =>
    intro A S hD hV hA hS hx
    cases hD
    refine ⟨⟨(fun l hl => by cases hl), ?_, fun u hu hn => ?_⟩, rfl⟩
    · obtain ⟨i, hi⟩ := hx
      have := (hA i).1 hi
      exact ⟨i, this.1, (h.zero i (hV i this.1)).1 this.2⟩
    · have := num_nonneg _ u rfl (over_lets hls hu)
      simp [num] at hn this; omega
  | cons l w ih =>
    intro A S hD hV hA hS hx
    cases hD with
    | @cons _ A' d _ _ hl hA' hx' hlt hd =>
      have hstep := ih (S := fun j => ∃ i, S i ∧ y.E i l j) hd (fun j ⟨i, h1, h2⟩ => h.cl i l j (hV i h1) hl h2) (fun j => by
        rw [hA']
        constructor
        · rintro ⟨i, h1, h2, h3⟩; exact ⟨⟨i, ((hA i).1 h1).1, h2⟩, h3⟩
        · rintro ⟨⟨i, h1, h2⟩, h3⟩
          have h4 := h.near i l j (hV i h1) hl h2 (by omega)
          have h5 := hS i h1
          exact ⟨i, (hA i).2 ⟨h1, by omega⟩, h2, h3⟩) (fun j ⟨i, h1, h2⟩ => by
        have h5 := hS i h1
        have h6 := h.ge j (h.cl i l j (hV i h1) hl h2)
        by_cases hj : D j = -1
        · exact .inl hj
        · have h4 := h.near i l j (hV i h1) hl h2 (by omega)
          right; omega) hx'
      obtain ⟨⟨ho, hh, hm⟩, hlen⟩ := hstep
      have hwl : over y.ls (l :: w) := fun x hx => by
        rcases List.mem_cons.1 hx with rfl | hx
        · exact hl
        · exact ho x hx
      refine ⟨⟨hwl, hh, fun u hu hn hk => ?_⟩, by simp [hlen]⟩
      obtain ⟨j, hr, hg⟩ := hk
      obtain ⟨i, h1, h2, h3⟩ := h.far hu hV hr hg
      have h4 := hS i h1
      have hul := num_lt_len (over_lets hls hu) (over_lets hls hwl) hn
      simp only [List.length_cons, hlen] at hul
      have hlu : u.length = d + 1 := by omega
      cases u with
      | nil => simp at hlu
      | cons x u =>
        simp only [List.length_cons, Nat.add_right_cancel_iff] at hlu
        have hxl : x ∈ y.ls := hu x (by simp)
        have huo : over y.ls u := fun z hz => hu z (by simp [hz])
        rcases num_lt_cons (hls x hxl) (hls l hl) (over_lets hls huo) (over_lets hls ho) (by rw [hlu, hlen]) hn with h5 | ⟨h5, h6⟩
        · obtain ⟨j2, ⟨k, hk1, hk2⟩, hk3, hk4⟩ := h.far (S := fun j => ∃ i, S i ∧ y.E i x j) huo (fun i ⟨k, h1, h2⟩ => h.cl k x i (hV k h1) hxl h2) hr hg
          have h7 := h.near k x j2 (hV k hk1) hxl hk2 hk3
          have h8 := hS k hk1
          exact hlt x hxl h5 ⟨k, j2, (hA k).2 ⟨hk1, by omega⟩, hk2, by omega⟩
        · subst h5
          exact hm u huo h6 ⟨j, hr, hg⟩
end AG
end
section
/- The spec's search as plain Lean: what is looked for, distances, the nodes closer by. -/
namespace AG
def foundAt (n : Nt) (q : List Int) (row : List (List Int)) : Bool :=
  if n.md = 0 then okAt n q 0 else if n.md = 1 then okAt n q 0 != okAt n q 1 else if n.md = 2 then okAt n q 0 && !okAt n q 1 else if n.md = 3 then !okAt n q 0
  else if n.md = 5 then decide (q[n.ps.length]? = some n.x) else row.all fun r => decide (r.length = 0)
/-- The kind asks for no automaton that is not there. -/
structure KindOk (n : Nt) : Prop where
  one : n.md = 0 ∨ n.md = 3 ∨ n.md = 5 → 1 ≤ n.as.length
  two : n.md = 1 ∨ n.md = 2 → 2 ≤ n.as.length
theorem near_iff {mv : List (List Int)} {D : List Int} {d : Int} : near mv D d = true ↔ ∃ r ∈ mv, ∃ x ∈ r, D[x.toNat]? = some d := by
  simp only [near, nearRow, List.any_eq_true, decide_eq_true_eq]
def rowOf (mv : List (List (List Int))) (i : Nat) : List (List Int) := (mv[i]?).getD []
def rnd (mv : List (List (List Int))) (d : Int) (D : List Int) : List Int := D.mapIdx fun i x => if x < 0 ∧ near (rowOf mv i) D (d - 1) = true then d else x
theorem rnd_length (mv : List (List (List Int))) (d : Int) (D : List Int) : (rnd mv d D).length = D.length := by simp [rnd]
theorem rnd_get (mv : List (List (List Int))) (d : Int) (D : List Int) (i : Nat) : (rnd mv d D)[i]? = (D[i]?).map fun x => if x < 0 ∧ near (rowOf mv i) D (d - 1) = true then d else x := by
  simp [rnd, List.getElem?_mapIdx]
structure Lv (mv : List (List (List Int))) (D0 D : List Int) (d : Int) : Prop where
  len : D.length = D0.length
  pos : 1 ≤ d
  rng : ∀ (i : Nat) x, D[i]? = some x → -1 ≤ x ∧ x < d
  zero : ∀ i : Nat, D[i]? = some 0 ↔ D0[i]? = some 0
  down : ∀ (i : Nat) x, D[i]? = some x → 0 < x → near (rowOf mv i) D (x - 1) = true
  up : ∀ (i : Nat) x c, D[i]? = some x → 0 ≤ c → c < d - 1 → near (rowOf mv i) D c = true → 0 ≤ x ∧ x ≤ c + 1
theorem Lv.start {mv : List (List (List Int))} {D : List Int} (h : ∀ (i : Nat) x, D[i]? = some x → x = -1 ∨ x = 0) : Lv mv D D 1 :=
  ⟨rfl, by omega, fun i x hx => by have := h i x hx; omega, fun _ => Iff.rfl, fun i x hx h0 => by have := h i x hx; omega, fun i x c hx h0 h1 => by omega⟩
theorem rnd_eq {mv : List (List (List Int))} {D0 D : List Int} {d : Int} (h : Lv mv D0 D d) {c : Int} (h0 : 0 ≤ c ∧ c < d) (i : Nat) : (rnd mv d D)[i]? = some c ↔ D[i]? = some c := by
  rw [rnd_get]
  cases hx : D[i]? with
  | none => simp
  | some x =>
    have := h.rng i x hx
    simp only [Option.map_some, Option.some.injEq]
    by_cases hc : x < 0 ∧ near (rowOf mv i) D (d - 1) = true
    · rw [if_pos hc]; omega
    · rw [if_neg hc]
theorem near_rnd {mv : List (List (List Int))} {D0 D : List Int} {d : Int} (h : Lv mv D0 D d) {c : Int} (h0 : 0 ≤ c ∧ c < d) (r : List (List Int)) : near r (rnd mv d D) c = near r D c := by
  rw [Bool.eq_iff_iff, near_iff, near_iff]
  constructor
  · rintro ⟨r', h1, x, h2, h3⟩; exact ⟨r', h1, x, h2, (rnd_eq h h0 _).1 h3⟩
  · rintro ⟨r', h1, x, h2, h3⟩; exact ⟨r', h1, x, h2, (rnd_eq h h0 _).2 h3⟩
theorem Lv.next {mv : List (List (List Int))} {D0 D : List Int} {d : Int} (h : Lv mv D0 D d) : Lv mv D0 (rnd mv d D) (d + 1) := by
  have hd := h.pos
  have inv : ∀ (i : Nat) y, (rnd mv d D)[i]? = some y → ∃ x, D[i]? = some x ∧ ((x < 0 ∧ near (rowOf mv i) D (d - 1) = true ∧ y = d) ∨ (¬ (x < 0 ∧ near (rowOf mv i) D (d - 1) = true) ∧ y = x)) := by
    intro i y hy
    rw [rnd_get] at hy
    cases hx : D[i]? with
    | none => rw [hx] at hy; simp at hy
    | some x =>
      rw [hx] at hy
      simp only [Option.map_some, Option.some.injEq] at hy
      by_cases hc : x < 0 ∧ near (rowOf mv i) D (d - 1) = true
      · rw [if_pos hc] at hy; exact ⟨x, rfl, .inl ⟨hc.1, hc.2, hy.symm⟩⟩
      · rw [if_neg hc] at hy; exact ⟨x, rfl, .inr ⟨hc, hy.symm⟩⟩
  refine ⟨by rw [rnd_length]; exact h.len, by omega, fun i y hy => ?_, fun i => ?_, fun i y hy h0 => ?_, fun i y c hy h0 h1 hn => ?_⟩
  · obtain ⟨x, hx, h2⟩ := inv i y hy
    have := h.rng i x hx
    omega
  · rw [rnd_eq h (by omega)]; exact h.zero i
  · obtain ⟨x, hx, ⟨h2, h3, rfl⟩ | ⟨h2, rfl⟩⟩ := inv i y hy
    · rw [near_rnd h (by omega)]; exact h3
    · have := h.rng i y hx
      rw [near_rnd h (by omega)]; exact h.down i y hx h0
  · rw [near_rnd h (by omega)] at hn
    obtain ⟨x, hx, ⟨h2, h3, rfl⟩ | ⟨h2, rfl⟩⟩ := inv i y hy
    · by_cases hc : c = y - 1
      · omega
      · have := h.up i x c hx h0 (by omega) hn; omega
    · by_cases hc : c = d - 1
      · subst hc
        have := h.rng i y hx
        by_cases hy0 : y < 0
        · exact absurd ⟨hy0, hn⟩ h2
        · omega
      · exact h.up i y c hx h0 (by omega) hn
/-- The distances are found. -/
structure DistOk (mv : List (List (List Int))) (D0 D : List Int) : Prop where
  len : D.length = D0.length
  ge : ∀ (i : Nat) x, D[i]? = some x → -1 ≤ x ∧ x ≤ D0.length + 1
  zero : ∀ i : Nat, D[i]? = some 0 ↔ D0[i]? = some 0
  down : ∀ (i : Nat) x, D[i]? = some x → 0 < x → near (rowOf mv i) D (x - 1) = true
  up : ∀ (i : Nat) x c, D[i]? = some x → 0 ≤ c → near (rowOf mv i) D c = true → 0 ≤ x ∧ x ≤ c + 1
theorem Lv.done {mv : List (List (List Int))} {D0 D : List Int} {d : Int} (h : Lv mv D0 D d) (hb : d ≤ D0.length + 2) (he : rnd mv d D = D) : DistOk mv D0 D := by
  refine ⟨h.len, fun i x hx => by have := h.rng i x hx; omega, h.zero, h.down, fun i x c hx h0 hn => ?_⟩
  by_cases h1 : c < d - 1
  · exact h.up i x c hx h0 h1 hn
  · have hcd : c = d - 1 := by
      obtain ⟨r, _, y, _, hy⟩ := near_iff.1 hn
      have := h.rng _ _ hy; omega
    subst hcd
    have h2 := h.rng i x hx
    by_cases hx0 : x < 0
    · have h3 := rnd_get mv d D i
      rw [he, hx] at h3
      simp only [Option.map_some, Option.some.injEq, if_pos (And.intro hx0 hn)] at h3
      have := h.pos; omega
    · omega
def neg (D : List Int) : Nat := D.countP fun x => decide (x < 0)
theorem neg_le : ∀ {D R : List Int}, R.length = D.length → (∀ (i : Nat) x y, D[i]? = some x → R[i]? = some y → y < 0 → x < 0) → neg R ≤ neg D
  | [], [], _, _ => Nat.le_refl _
  | [], _ :: _, h, _ => by simp at h
  | _ :: _, [], h, _ => by simp at h
  | x :: D, y :: R, hl, h => by
    have ih := neg_le (D := D) (R := R) (by simpa using hl) fun i a b ha hb => h (i + 1) a b (by simpa using ha) (by simpa using hb)
    have h0 := h 0 x y rfl rfl
    unfold neg at ih ⊢
    rw [List.countP_cons, List.countP_cons]
    by_cases hy : y < 0
    · simp [hy, h0 hy]; exact ih
    · simp [hy]; omega
theorem neg_lt : ∀ {D R : List Int}, R.length = D.length → (∀ (i : Nat) x y, D[i]? = some x → R[i]? = some y → y < 0 → x < 0) → (∃ (i : Nat) (x y : Int), D[i]? = some x ∧ R[i]? = some y ∧ x < 0 ∧ ¬ y < 0) → neg R < neg D
  | [], [], _, _, ⟨i, x, y, h, _⟩ => by simp at h
  | [], _ :: _, h, _, _ => by simp at h
  | _ :: _, [], h, _, _ => by simp at h
  | x :: D, y :: R, hl, h, ⟨i, a, b, ha, hb, h1, h2⟩ => by
    have hl' : R.length = D.length := by simpa using hl
    have hs : ∀ (i : Nat) a b, D[i]? = some a → R[i]? = some b → b < 0 → a < 0 := fun i a b ha hb => h (i + 1) a b (by simpa using ha) (by simpa using hb)
    have h0 := h 0 x y rfl rfl
    have hle := neg_le hl' hs
    unfold neg at hle ⊢
    rw [List.countP_cons, List.countP_cons]
    cases i with
    | zero =>
      simp only [List.getElem?_cons_zero, Option.some.injEq] at ha hb
      subst ha hb
      simp [h1, h2]; omega
    | succ i =>
      have := neg_lt hl' hs ⟨i, a, b, by simpa using ha, by simpa using hb, h1, h2⟩
      unfold neg at this
      by_cases hy : y < 0
      · simp [hy, h0 hy]; exact this
      · simp [hy]; omega
theorem rnd_neg {mv : List (List (List Int))} {d : Int} (hd : 1 ≤ d) {D : List Int} (h : rnd mv d D ≠ D) : neg (rnd mv d D) < neg D := by
  refine neg_lt (rnd_length _ _ _) (fun i x y hx hy h0 => ?_) ?_
  · rw [rnd_get, hx] at hy
    simp only [Option.map_some, Option.some.injEq] at hy
    split at hy <;> omega
  · refine Classical.byContradiction fun hn => h ?_
    apply List.ext_getElem?
    intro i
    rw [rnd_get]
    cases hx : D[i]? with
    | none => rfl
    | some x =>
      simp only [Option.map_some, Option.some.injEq]
      split
      · rename_i hc
        refine absurd ⟨i, x, d, hx, ?_, hc.1, by omega⟩ hn
        rw [rnd_get, hx]; simp only [Option.map_some, if_pos hc]
      · rfl
/-- A list of which the first i places are those of another one. -/
def mix (R D : List Int) (i : Nat) : List Int := R.take i ++ D.drop i
theorem mix_length {R D : List Int} (h : R.length = D.length) (i : Nat) : (mix R D i).length = D.length := by simp [mix]; omega
theorem mix_get {R D : List Int} (h : R.length = D.length) {i : Nat} (hi : i ≤ D.length) (j : Nat) : (mix R D i)[j]? = if j < i then R[j]? else D[j]? := by
  unfold mix
  by_cases hj : j < i
  · rw [List.getElem?_append_left (by simp; omega), List.getElem?_take, if_pos hj, if_pos hj]
  · rw [List.getElem?_append_right (by simp; omega), List.getElem?_drop, if_neg hj]
    congr 1; simp; omega
theorem mix_set {R D : List Int} (h : R.length = D.length) {i : Nat} (hi : i < D.length) {y : Int} (hy : R[i]? = some y) : (mix R D i).set i y = mix R D (i + 1) := by
  apply List.ext_getElem?
  intro j
  rw [List.getElem?_set, mix_get h (by omega), mix_get h (by omega), mix_length h]
  by_cases hj : i = j
  · subst hj; simp [hi, hy]
  · by_cases hji : j < i
    · have : j < i + 1 := by omega
      simp [hj, hji, this]
    · have : ¬ j < i + 1 := by omega
      simp [hj, hji, this]
theorem mix_same {R D : List Int} (h : R.length = D.length) {i : Nat} (hi : i < D.length) (hy : R[i]? = D[i]?) : mix R D i = mix R D (i + 1) := by
  apply List.ext_getElem?
  intro j
  rw [mix_get h (by omega), mix_get h (by omega)]
  by_cases hj : j = i
  · subst hj; simp [hy]
  · by_cases hji : j < i
    · have : j < i + 1 := by omega
      simp [hji, this]
    · have : ¬ j < i + 1 := by omega
      simp [hji, this]
theorem mix_zero (R D : List Int) : mix R D 0 = D := by simp [mix]
theorem mix_full {R D : List Int} (h : R.length = D.length) : mix R D D.length = R := by
  unfold mix; rw [← h, List.take_length, h, List.drop_length, List.append_nil]
theorem near_mix {mv : List (List (List Int))} {D0 D : List Int} {d : Int} (h : Lv mv D0 D d) {i : Nat} (hi : i ≤ D.length) (r : List (List Int)) : near r (mix (rnd mv d D) D i) (d - 1) = near r D (d - 1) := by
  have hd := h.pos
  have key : ∀ j : Nat, (mix (rnd mv d D) D i)[j]? = some (d - 1) ↔ D[j]? = some (d - 1) := fun j => by
    rw [mix_get (rnd_length _ _ _) hi]
    split
    · exact rnd_eq h (by omega) j
    · exact Iff.rfl
  rw [Bool.eq_iff_iff, near_iff, near_iff]
  constructor
  · rintro ⟨r', h1, x, h2, h3⟩; exact ⟨r', h1, x, h2, (key _).1 h3⟩
  · rintro ⟨r', h1, x, h2, h3⟩; exact ⟨r', h1, x, h2, (key _).2 h3⟩
/-- Something was set among the first i places. -/
def chg (R D : List Int) (i : Nat) : Bool := decide (mix R D i ≠ D)
theorem chg_zero (R D : List Int) : chg R D 0 = false := by simp [chg, mix_zero]
theorem chg_same {R D : List Int} (h : R.length = D.length) {i : Nat} (hi : i < D.length) (hy : R[i]? = D[i]?) : chg R D (i + 1) = chg R D i := by unfold chg; rw [← mix_same h hi hy]
theorem chg_set {R D : List Int} (h : R.length = D.length) {i : Nat} (hi : i < D.length) (hy : R[i]? ≠ D[i]?) : chg R D (i + 1) = true := by
  unfold chg
  rw [decide_eq_true_eq]
  intro he
  have := congrArg (·[i]?) he
  simp only [mix_get h (show i + 1 ≤ D.length by omega), Nat.lt_succ_self, if_true] at this
  exact hy this

/-! ### The nodes closer by -/
def closerRow (D : List Int) (d : Int) (out r : List Int) : List Int := r.foldl (fun o x => bif decide (D[x.toNat]? = some d) && !inL o x then o ++ [x] else o) out
def closerUp (mv : List (List (List Int))) (D at_ : List Int) (k : Nat) (d : Int) (i : Nat) : List Int := (at_.take i).foldl (fun o a => closerRow D d o (((rowOf mv a.toNat)[k]?).getD [])) []
def closer (mv : List (List (List Int))) (D at_ : List Int) (k : Nat) (d : Int) : List Int := at_.foldl (fun o a => closerRow D d o (((rowOf mv a.toNat)[k]?).getD [])) []
theorem inL_iff {l : List Int} {x : Int} : inL l x = true ↔ x ∈ l := by simp [inL]
theorem closerRow_spec {D : List Int} {d : Int} : ∀ {r out : List Int}, (∀ x, x ∈ closerRow D d out r ↔ x ∈ out ∨ (x ∈ r ∧ D[x.toNat]? = some d)) ∧ (out.Nodup → (closerRow D d out r).Nodup)
  | [], out => ⟨by simp [closerRow], fun h => h⟩
  | y :: r, out => by
    have e : closerRow D d out (y :: r) = closerRow D d (bif decide (D[y.toNat]? = some d) && !inL out y then out ++ [y] else out) r := rfl
    rw [e]
    by_cases h1 : D[y.toNat]? = some d
    · by_cases h2 : y ∈ out
      · have : inL out y = true := inL_iff.2 h2
        simp only [h1, this, decide_true, Bool.not_true, Bool.and_false, cond_false]
        have ih := closerRow_spec (D := D) (d := d) (r := r) (out := out)
        refine ⟨fun x => ?_, ih.2⟩
        rw [ih.1]
        constructor
        · rintro (h | ⟨h, h'⟩)
          · exact .inl h
          · exact .inr ⟨by simp [h], h'⟩
        · rintro (h | ⟨h, h'⟩)
          · exact .inl h
          · rcases List.mem_cons.1 h with rfl | h
            · exact .inl h2
            · exact .inr ⟨h, h'⟩
      · have : inL out y = false := by rw [Bool.eq_false_iff]; exact fun h => h2 (inL_iff.1 h)
        simp only [h1, this, decide_true, Bool.not_false, Bool.and_true, cond_true]
        have ih := closerRow_spec (D := D) (d := d) (r := r) (out := out ++ [y])
        refine ⟨fun x => ?_, fun hn => ih.2 ?_⟩
        · rw [ih.1]
          constructor
          · rintro (h | ⟨h, h'⟩)
            · rcases List.mem_append.1 h with h | h
              · exact .inl h
              · simp only [List.mem_singleton] at h; subst h; exact .inr ⟨by simp, h1⟩
            · exact .inr ⟨by simp [h], h'⟩
          · rintro (h | ⟨h, h'⟩)
            · exact .inl (by simp [h])
            · rcases List.mem_cons.1 h with rfl | h
              · exact .inl (by simp)
              · exact .inr ⟨h, h'⟩
        · refine List.nodup_append.2 ⟨hn, by simp, fun a ha b hb => ?_⟩
          simp only [List.mem_singleton] at hb
          subst hb
          exact fun he => h2 (he ▸ ha)
    · simp only [h1, decide_false, Bool.false_and, cond_false]
      have ih := closerRow_spec (D := D) (d := d) (r := r) (out := out)
      refine ⟨fun x => ?_, ih.2⟩
      rw [ih.1]
      constructor
      · rintro (h | ⟨h, h'⟩)
        · exact .inl h
        · exact .inr ⟨by simp [h], h'⟩
      · rintro (h | ⟨h, h'⟩)
        · exact .inl h
        · rcases List.mem_cons.1 h with rfl | h
          · exact absurd h' h1
          · exact .inr ⟨h, h'⟩
theorem closer_fold {mv : List (List (List Int))} {D : List Int} {k : Nat} {d : Int} : ∀ {at_ out : List Int}, (∀ x, x ∈ at_.foldl (fun o a => closerRow D d o (((rowOf mv a.toNat)[k]?).getD [])) out ↔ x ∈ out ∨ ∃ a ∈ at_, x ∈ ((rowOf mv a.toNat)[k]?).getD [] ∧ D[x.toNat]? = some d) ∧
    (out.Nodup → (at_.foldl (fun o a => closerRow D d o (((rowOf mv a.toNat)[k]?).getD [])) out).Nodup)
  | [], out => ⟨by simp, fun h => h⟩
  | a :: at_, out => by
    simp only [List.foldl_cons]
    have h1 := closerRow_spec (D := D) (d := d) (r := ((rowOf mv a.toNat)[k]?).getD []) (out := out)
    have ih := closer_fold (mv := mv) (D := D) (k := k) (d := d) (at_ := at_) (out := closerRow D d out (((rowOf mv a.toNat)[k]?).getD []))
    refine ⟨fun x => ?_, fun hn => ih.2 (h1.2 hn)⟩
    rw [ih.1, h1.1]
    simp only [List.mem_cons, exists_eq_or_imp]
    constructor
    · rintro ((h | h) | h)
      · exact .inl h
      · exact .inr (.inl h)
      · exact .inr (.inr h)
    · rintro (h | h | h)
      · exact .inl (.inl h)
      · exact .inl (.inr h)
      · exact .inr h
theorem mem_closer {mv : List (List (List Int))} {D at_ : List Int} {k : Nat} {d x : Int} : x ∈ closer mv D at_ k d ↔ ∃ a ∈ at_, x ∈ ((rowOf mv a.toNat)[k]?).getD [] ∧ D[x.toNat]? = some d := by
  rw [closer, closer_fold.1]; simp
theorem nodup_len : ∀ (n : Nat) (l : List Int), l.Nodup → (∀ x ∈ l, 0 ≤ x ∧ x < n) → l.length ≤ n
  | 0, l, _, h => by
    cases l with
    | nil => simp
    | cons x l => have := h x (by simp); omega
  | n + 1, l, hn, h => by
    by_cases hx : (n : Int) ∈ l
    · have hp := List.perm_cons_erase hx
      have h1 := nodup_len n (l.erase n) (hn.sublist List.erase_sublist) fun x hx' => by
        have h2 := h x (List.mem_of_mem_erase hx')
        have : x ≠ n := fun he => by
          subst he
          exact (List.nodup_cons.1 (hp.nodup_iff.1 hn)).1 hx'
        omega
      have := hp.length_eq
      simp only [List.length_cons] at this
      omega
    · have := nodup_len n l hn fun x hx' => by
        have h2 := h x hx'
        have : x ≠ n := fun he => hx (he ▸ hx')
        omega
      omega
end AG
end
section
/- The spec's search as plain Lean: the network as a system of moves; its first word. -/
namespace AG
def netE (n : Nt) (i l j : Int) : Prop := j ∈ nexts n (dec (szs n) i) l
def netG (n : Nt) (i : Int) : Prop := foundAt n (dec (szs n) i) (movesRow n i.toNat) = true
def netSys (n : Nt) : Sys := ⟨letters n.al, netE n, fun i => i = enc (szs n) n.st, netG n⟩
def inN (n : Nt) (i : Int) : Prop := 0 ≤ i ∧ i < total n
def txt (w : List Int) : List UInt8 := w.map fun l => UInt8.ofNat (97 + l.toNat)
noncomputable def firstN (n : Nt) : Option (List Int) := firstOf (netSys n)
theorem letters_6 (a : Int) : ∀ l ∈ letters a, 0 ≤ l ∧ l < 6 := fun l h => (letters_in h).1
theorem letters_sorted (a : Int) : (letters a).Pairwise (· < ·) := by
  unfold letters lettersUp
  rw [List.pairwise_map]
  refine List.Pairwise.sublist List.filter_sublist (List.Pairwise.imp (fun {x y} h => ?_) List.pairwise_lt_range)
  exact Int.ofNat_lt.2 h
theorem total_pos {n : Nt} (hn : NtOk n) : 1 ≤ total n ∧ total n ≤ 1048576 := by
  have h1 := prd_pos hn (Nat.le_refl (n.ps.length + n.as.length))
  have h2 := pow16 (i := n.ps.length + n.as.length) (by have := hn.lp; have := hn.la; omega)
  unfold total; omega
theorem nexts_in {n : Nt} (hn : NtOk n) {k l : Int} (hk : 0 ≤ k) (hl : 0 ≤ l ∧ l < 6) : (nexts n (dec (szs n) k) l).length ≤ 1048576 ∧ ∀ x ∈ nexts n (dec (szs n) k) l, inN n x := by
  have hv := dec_vec hn hk
  have h1 := nextsUp_in hn hv hl (Nat.le_refl _)
  have h2 := pow16 (i := n.ps.length + n.as.length) (by have := hn.lp; have := hn.la; omega)
  have e : nexts n (dec (szs n) k) l = nextsUp n (dec (szs n) k) l (n.ps.length + n.as.length) := by unfold nexts; rw [hv.len]
  rw [e]
  exact ⟨by omega, fun x hx => h1.2 x hx⟩
theorem moves_length (n : Nt) : (moves n).length = (total n).toNat := by simp [moves]
theorem moves_get {n : Nt} {i : Nat} (h : i < (total n).toNat) : (moves n)[i]? = some (movesRow n i) := by simp [moves, h]
theorem rowOf_moves {n : Nt} {i : Int} (h : inN n i) : rowOf (moves n) i.toNat = movesRow n i.toNat := by
  unfold rowOf; rw [moves_get (by unfold inN at h; omega)]; rfl
theorem movesRow_get {n : Nt} {i : Int} (h : 0 ≤ i) {k : Nat} {l : Int} (hl : (letters n.al)[k]? = some l) : (movesRow n i.toNat)[k]? = some (nexts n (dec (szs n) i) l) := by
  have e : ((i.toNat : Nat) : Int) = i := by omega
  simp [movesRow, hl, e]
theorem mem_movesRow {n : Nt} {i : Int} (h : 0 ≤ i) {r : List Int} : r ∈ movesRow n i.toNat ↔ ∃ l ∈ letters n.al, r = nexts n (dec (szs n) i) l := by
  have e : ((i.toNat : Nat) : Int) = i := by omega
  simp only [movesRow, List.mem_map, e]
  constructor
  · rintro ⟨l, h1, h2⟩; exact ⟨l, h1, h2.symm⟩
  · rintro ⟨l, h1, h2⟩; exact ⟨l, h1, h2.symm⟩
theorem moves_rows {n : Nt} (hn : NtOk n) : ∀ r ∈ moves n, r.length = (letters n.al).length ∧ ∀ r2 ∈ r, r2.length ≤ 1048576 ∧ ∀ x ∈ r2, inN n x := by
  intro r hr
  simp only [moves, List.mem_map, List.mem_range] at hr
  obtain ⟨i, hi, rfl⟩ := hr
  refine ⟨by simp [movesRow], fun r2 h2 => ?_⟩
  have := (mem_movesRow (n := n) (i := (i : Int)) (by omega) (r := r2)).1 (by simpa using h2)
  obtain ⟨l, hl, rfl⟩ := this
  exact nexts_in hn (by omega) (letters_6 _ l hl)
def dist0 (n : Nt) (i : Nat) : Int := if foundAt n (dec (szs n) i) (movesRow n i) = true then 0 else -1
def dists0 (n : Nt) : List Int := (List.range (total n).toNat).map (dist0 n)
theorem dists0_length (n : Nt) : (dists0 n).length = (total n).toNat := by simp [dists0]
theorem dists0_get {n : Nt} {i : Nat} (h : i < (total n).toNat) : (dists0 n)[i]? = some (dist0 n i) := by simp [dists0, h]
def dfun (D : List Int) (i : Int) : Int := (D[i.toNat]?).getD (-1)
theorem dfun_get {n : Nt} {D : List Int} (hD : D.length = (total n).toNat) {i : Int} (h : inN n i) : D[i.toNat]? = some (dfun D i) := by
  unfold dfun
  rw [List.getElem?_eq_getElem (by unfold inN at h; omega)]; rfl
theorem distLaw {n : Nt} (hn : NtOk n) {D : List Int} (h : DistOk (moves n) (dists0 n) D) : DistLaw (netSys n) (inN n) (dfun D) := by
  have hlen : D.length = (total n).toNat := h.len.trans (dists0_length n)
  refine ⟨fun i hi => ?_, fun i hi h0 => ?_, fun i l j hi hl hE h0 => ?_, fun i hi => (h.ge _ _ (dfun_get hlen hi)).1, fun i l j hi hl hE => (nexts_in hn hi.1 (letters_6 _ l hl)).2 j hE⟩
  · have h1 := h.zero i.toNat
    rw [dfun_get hlen hi, dists0_get (by unfold inN at hi; omega)] at h1
    have e : ((i.toNat : Nat) : Int) = i := by have := hi.1; omega
    simp only [Option.some.injEq] at h1
    rw [h1]
    unfold dist0 netSys netG
    rw [e]
    by_cases hf : foundAt n (dec (szs n) i) (movesRow n i.toNat) = true
    · simp [hf]
    · simp [hf]
  · have h1 := h.down i.toNat _ (dfun_get hlen hi) h0
    rw [rowOf_moves hi] at h1
    obtain ⟨r, hr, x, hx, hd⟩ := near_iff.1 h1
    obtain ⟨l, hl, rfl⟩ := (mem_movesRow hi.1).1 hr
    have hxn := (nexts_in hn hi.1 (letters_6 _ l hl)).2 x hx
    rw [dfun_get hlen hxn, Option.some.injEq] at hd
    exact ⟨l, hl, x, hx, hd⟩
  · have hjn := (nexts_in hn hi.1 (letters_6 _ l hl)).2 j hE
    refine h.up i.toNat _ _ (dfun_get hlen hi) h0 ?_
    rw [rowOf_moves hi]
    exact near_iff.2 ⟨_, (mem_movesRow hi.1).2 ⟨l, hl, rfl⟩, j, hE, dfun_get hlen hjn⟩
theorem closer_mem {n : Nt} (hn : NtOk n) {D : List Int} (hD : D.length = (total n).toNat) {A : List Int} (hA : ∀ a ∈ A, inN n a) {k : Nat} {l : Int} (hl : (letters n.al)[k]? = some l) (d j : Int) :
    j ∈ closer (moves n) D A k d ↔ ∃ i, i ∈ A ∧ netE n i l j ∧ dfun D j = d := by
  rw [mem_closer]
  constructor
  · rintro ⟨a, ha, hj, hd⟩
    rw [rowOf_moves (hA a ha), movesRow_get (hA a ha).1 hl, Option.getD_some] at hj
    have hjn := (nexts_in hn (hA a ha).1 (letters_6 _ l (List.mem_of_getElem? hl))).2 j hj
    rw [dfun_get hD hjn, Option.some.injEq] at hd
    exact ⟨a, ha, hj, hd⟩
  · rintro ⟨a, ha, hj, hd⟩
    have hjn := (nexts_in hn (hA a ha).1 (letters_6 _ l (List.mem_of_getElem? hl))).2 j hj
    refine ⟨a, ha, ?_, by rw [dfun_get hD hjn, hd]⟩
    rw [rowOf_moves (hA a ha), movesRow_get (hA a ha).1 hl]; exact hj
theorem enc_take {n : Nt} (hn : NtOk n) {q : List Int} (hq : Vec n q) : ∀ {i : Nat}, i ≤ n.ps.length + n.as.length → 0 ≤ enc ((szs n).take i) (q.take i) ∧ enc ((szs n).take i) (q.take i) < prd n i
  | 0, _ => by simp [enc, prd]
  | i + 1, h => by
    have ih := enc_take hn hq (i := i) (by omega)
    obtain ⟨s, hs⟩ : ∃ s, (szs n)[i]? = some s := ⟨_, List.getElem?_eq_getElem (by rw [szs_len]; omega)⟩
    obtain ⟨x, hx⟩ : ∃ x, q[i]? = some x := ⟨_, List.getElem?_eq_getElem (by rw [hq.len]; omega)⟩
    obtain ⟨s', hs', h0, h1⟩ := hq.val i x hx
    rw [hs] at hs'; cases hs'
    have e : enc ((szs n).take (i + 1)) (q.take (i + 1)) = enc ((szs n).take i) (q.take i) * s + x := by
      unfold enc
      rw [List.take_add_one, List.take_add_one, hs, hx, List.zip_append (by simp [szs_len, hq.len])]
      simp
    rw [e]
    simp only [prd, hs, Option.getD_some]
    have h3 : 0 ≤ enc ((szs n).take i) (q.take i) * s := Int.mul_nonneg ih.1 (by omega)
    have h4 : (enc ((szs n).take i) (q.take i) + 1) * s ≤ prd n i * s := Int.mul_le_mul_of_nonneg_right (by omega) (by omega)
    rw [Int.add_mul, Int.one_mul] at h4
    omega
theorem enc_in {n : Nt} (hn : NtOk n) {q : List Int} (hq : Vec n q) : inN n (enc (szs n) q) := by
  have := enc_take hn hq (Nat.le_refl _)
  rw [List.take_of_length_le (by rw [szs_len]; omega), List.take_of_length_le (by rw [hq.len]; omega)] at this
  exact this
/-- The word stops at distance 0. -/
theorem firstN_down {n : Nt} (hn : NtOk n) {D : List Int} (h : DistOk (moves n) (dists0 n) D) (hs : inN n (enc (szs n) n.st)) {d : Nat} {w : List Int} (h0 : dfun D (enc (szs n) n.st) = d)
    (hw : Down (netSys n) (dfun D) (fun i => i = enc (szs n) n.st) d w) : firstN n = some w := by
  have hL := distLaw hn h
  have := hw.first hL (letters_6 _) (S := fun i => i = enc (szs n) n.st) (fun i (hi : i = _) => hi ▸ hs) (fun i => ⟨fun (hi : i = _) => ⟨hi, hi ▸ h0⟩, fun hi => hi.1⟩) (fun i hi => .inr (by rw [hi, h0]; exact Int.le_refl _)) ⟨_, rfl⟩
  exact firstOf_some (letters_6 _) this.1
theorem firstN_none {n : Nt} (hn : NtOk n) {D : List Int} (h : DistOk (moves n) (dists0 n) D) (hs : inN n (enc (szs n) n.st)) (h0 : dfun D (enc (szs n) n.st) = -1) : firstN n = none := by
  refine firstOf_none fun w ho hh => ?_
  obtain ⟨j, hr, hg⟩ := hh
  obtain ⟨i, hi, h1, _⟩ := (distLaw hn h).far ho (fun i (hi : i = _) => hi ▸ hs) hr hg
  rw [hi, h0] at h1
  omega
theorem prd_fold {n : Nt} {i : Nat} {s : Int} (h : (szs n)[i]? = some s) : prd n (i + 1) = prd n i * s := by simp [prd, h]
theorem txt_snoc (u : List Int) (l : Int) : txt (u ++ [l]) = txt u ++ [UInt8.ofNat (97 + l.toNat)] := by simp [txt]
end AG
end
section
/- Violations of properties by parts, and repairs, as plain Lean. -/
namespace AG
def partsNet (l : List Ts) (p : Au) : Nt := ⟨l, [p], List.replicate (l.length + 1) 0, partsAl l, 3, 0⟩
noncomputable def violW (l : List Ts) (p : Au) : Option (List Int) := if (partsOk l && autOk p) = true then firstN (partsNet l p) else none
noncomputable def keeps (l : List Ts) (p : Au) : Bool := partsOk l && autOk p && !(violW l p).isSome
noncomputable def repUp (l : List Ts) (p : Au) (part : Nat) (s : Ts) : Nat → List Ed
  | 0 => []
  | k + 1 => repUp l p part s k ++ (match s.ed[k]? with | some e => if keeps (l.set part (dropAt s k)) p = true then [e] else [] | none => [])
noncomputable def repair (l : List Ts) (p : Au) (part : Int) : List Ed :=
  if (partsOk l && autOk p) = true ∧ 0 ≤ part ∧ part < l.length then (match l[part.toNat]? with | some s => repUp l p part.toNat s s.ed.length | none => []) else []
theorem partsOk_len {l : List Ts} (h : partsOk l = true) : 1 ≤ l.length ∧ l.length ≤ 3 := by
  simp only [partsOk, Bool.and_eq_true, decide_eq_true_eq] at h; exact h.1
theorem partsOk_all {l : List Ts} (h : partsOk l = true) : ∀ s ∈ l, sysOk s = true := by
  simp only [partsOk, Bool.and_eq_true, List.all_eq_true] at h; exact h.2
theorem partsAl_ok {l : List Ts} (h : partsOk l = true) : 0 ≤ partsAl l ∧ partsAl l ≤ 63 := by
  have h2 : l.all sysOk = true := by simp only [partsOk, Bool.and_eq_true] at h; exact h.2
  unfold partsAl; rw [h]; exact alOf_le h2
theorem partsAl_neg (l : List Ts) : partsAl l < 0 ↔ partsOk l = false := by
  cases h : partsOk l with
  | true => have := partsAl_ok h; simp; omega
  | false => simp [partsAl, h]
theorem partsNet_ok {l : List Ts} {p : Au} (hl : ∀ s ∈ l, s.ed.length ≤ 1048576) (h : partsOk l = true) (hp : autOk p = true) : NtOk (partsNet l p) :=
  ⟨fun s hs => ⟨partsOk_all h s hs, hl s hs⟩, fun a ha => by simp only [partsNet, List.mem_singleton] at ha; subst ha; exact hp, (partsOk_len h).2, by simp [partsNet], partsAl_ok h⟩
theorem partsNet_kind (l : List Ts) (p : Au) : KindOk (partsNet l p) := ⟨fun _ => by simp [partsNet], fun h => by simp [partsNet] at h⟩
theorem zero_vec {n : Nt} (hn : NtOk n) : Vec n (List.replicate (n.ps.length + n.as.length) 0) := by
  refine ⟨by simp, fun i x hx => ?_⟩
  rw [List.getElem?_replicate] at hx
  split at hx
  · rename_i hi
    obtain ⟨s, hs⟩ : ∃ s, (szs n)[i]? = some s := ⟨_, List.getElem?_eq_getElem (by rw [szs_len]; exact hi)⟩
    cases hx
    exact ⟨s, hs, by omega, by have := szs_le hn hs; omega⟩
  · cases hx
theorem repUp_length (l : List Ts) (p : Au) (part : Nat) (s : Ts) (k : Nat) : (repUp l p part s k).length ≤ k := by
  induction k with
  | zero => simp [repUp]
  | succ k ih =>
    simp only [repUp, List.length_append]
    split
    · split <;> simp <;> omega
    · simp; omega
theorem dropAt_len (s : Ts) (k : Nat) : (dropAt s k).ed.length ≤ s.ed.length := by simp [dropAt]; omega
end AG
end
