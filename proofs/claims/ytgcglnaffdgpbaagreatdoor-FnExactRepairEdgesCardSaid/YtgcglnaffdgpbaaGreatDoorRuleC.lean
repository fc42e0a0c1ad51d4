/- Rules of proof over abstract values, for any program. -/
import Derived.Test.YtgcglnaffdgpbaaGreatDoorRuleB
import Derived.Laws.BytesString
section
/- Soundness of the operations: arithmetic, comparisons, addresses. -/
namespace Go.AX
open Go

section
variable {P : Program} {gl : Globs} {w : World} {M : Marks} {σ : Store}

theorem and_i64 {x y : Int} (hx : 0 ≤ x ∧ x < 9223372036854775808) (hy : 0 ≤ y ∧ y < 9223372036854775808) (f : Nat → Nat → Nat) (g : BitVec 64 → BitVec 64 → BitVec 64)
    (hg : ∀ a b : Nat, a < 2 ^ 63 → b < 2 ^ 63 → (g (BitVec.ofNat 64 a) (BitVec.ofNat 64 b)).toNat = f a b) (hf : ∀ a b : Nat, a < 2 ^ 63 → b < 2 ^ 63 → f a b < 2 ^ 63) :
    IntKind.i64.wrap ((g (BitVec.ofInt 64 x) (BitVec.ofInt 64 y)).toNat : Int) = ((f x.toNat y.toNat : Nat) : Int) := by
  obtain ⟨a, rfl⟩ := Int.eq_ofNat_of_zero_le hx.1
  obtain ⟨b, rfl⟩ := Int.eq_ofNat_of_zero_le hy.1
  have ha : a < 2 ^ 63 := by have := hx.2; omega
  have hb : b < 2 ^ 63 := by have := hy.2; omega
  have e1 : BitVec.ofInt 64 (a : Int) = BitVec.ofNat 64 a := by simp
  have e2 : BitVec.ofInt 64 (b : Int) = BitVec.ofNat 64 b := by simp
  rw [e1, e2, hg a b ha hb]
  have := hf a b ha hb
  simp only [Int.toNat_natCast]
  exact IntWalk.i64_in _ ⟨by omega, by omega⟩


theorem and_u64 {x y : Int} (hx : 0 ≤ x ∧ x < 18446744073709551616) (hy : 0 ≤ y ∧ y < 18446744073709551616) :
    IntKind.u64.wrap ((BitVec.ofInt IntKind.u64.bits x &&& BitVec.ofInt IntKind.u64.bits y).toNat : Int) = ((x.toNat &&& y.toNat : Nat) : Int) := by
  obtain ⟨a, rfl⟩ := Int.eq_ofNat_of_zero_le hx.1
  obtain ⟨b, rfl⟩ := Int.eq_ofNat_of_zero_le hy.1
  have h2 : (BitVec.ofInt 64 (a : Int) &&& BitVec.ofInt 64 (b : Int)).toNat = a &&& b := by
    simp only [BitVec.toNat_and, BitVec.ofInt_natCast, BitVec.toNat_ofNat]
    rw [Nat.mod_eq_of_lt (by omega), Nat.mod_eq_of_lt (by omega)]
  have h3 : IntKind.u64.bits = 64 := rfl
  rw [h3, h2]
  simp only [Int.toNat_natCast]
  have : a &&& b ≤ a := Nat.and_le_left
  exact IntWalk.u64_in _ (by omega)

theorem intWp_sound {op : BinOp} {t : TypeId} {k : IntKind} {x y : Int} {K : AV → Prop} (h : intWp op k x y K) :
    ∃ v r, (binOp op t (.int k x) (.int k y)).run P w = .ok v w ∧ K r ∧ rep w M r v := by
  have wr : ∀ z, I64 z → IntKind.i64.wrap z = z := fun z hz => IntWalk.i64_in z hz
  unfold intWp at h
  split at h
  · exact ⟨_, _, by simp [binOp, Op.intArith, wr _ h.1]; rfl, h.2, by simp [rep]⟩
  · exact ⟨_, _, by simp [binOp, Op.intArith, wr _ h.1]; rfl, h.2, by simp [rep]⟩
  · exact ⟨_, _, by simp [binOp, Op.intArith, wr _ h.1]; rfl, h.2, by simp [rep]⟩
  · exact ⟨_, _, by simp [binOp, Op.intArith]; rfl, h, by simp [rep]⟩
  · exact ⟨_, _, by simp [binOp, Op.intArith]; rfl, h, by simp [rep]⟩
  · exact ⟨_, _, by simp [binOp, Op.intArith]; rfl, h, by simp [rep]⟩
  · obtain ⟨⟨h1, h2, h3⟩, h4⟩ := h
    have hy : y ≠ 0 := by omega
    exact ⟨_, _, by simp [binOp, Op.intDiv, hy, IntWalk.i64_quo x y ⟨h1, h2, h3⟩]; rfl, h4, by simp [rep]⟩
  · obtain ⟨⟨h1, h2⟩, h4⟩ := h
    have hy : y ≠ 0 := by omega
    exact ⟨_, _, by simp [binOp, Op.intDiv, hy, IntWalk.rem_in x y h1]; rfl, h4, by simp [rep]⟩
  · obtain ⟨⟨h1, h2, h3, h4⟩, h5⟩ := h
    have := and_i64 ⟨h1, h2⟩ ⟨h3, h4⟩ (· &&& ·) (· &&& ·) (fun a b ha hb => by
      simp only [BitVec.toNat_and, BitVec.toNat_ofNat]; rw [Nat.mod_eq_of_lt (by omega), Nat.mod_eq_of_lt (by omega)]) (fun a b ha hb => Nat.and_lt_two_pow a hb)
    exact ⟨_, _, by simp only [binOp, Op.intBits, ne_eq, not_true_eq_false, if_false, Sem.run_pure]; rfl, h5, by simp only [rep]; exact congrArg _ this⟩
  · obtain ⟨⟨h1, h2, h3, h4⟩, h5⟩ := h
    exact ⟨_, _, by simp only [binOp, Op.intBits, ne_eq, not_true_eq_false, if_false, Sem.run_pure]; rfl, h5, by simp only [rep]; exact congrArg _ (and_u64 ⟨h1, h2⟩ ⟨h3, h4⟩)⟩
  · obtain ⟨⟨h1, h2, h3, h4⟩, h5⟩ := h
    have := and_i64 ⟨h1, h2⟩ ⟨h3, h4⟩ (· ||| ·) (· ||| ·) (fun a b ha hb => by
      simp only [BitVec.toNat_or, BitVec.toNat_ofNat]; rw [Nat.mod_eq_of_lt (by omega), Nat.mod_eq_of_lt (by omega)]) (fun a b ha hb => Nat.or_lt_two_pow ha hb)
    exact ⟨_, _, by simp only [binOp, Op.intBits, ne_eq, not_true_eq_false, if_false, Sem.run_pure]; rfl, h5, by simp only [rep]; exact congrArg _ this⟩
  · obtain ⟨⟨h1, h2, h3, h4⟩, h5⟩ := h
    have := and_i64 ⟨h1, h2⟩ ⟨h3, h4⟩ (· ^^^ ·) (· ^^^ ·) (fun a b ha hb => by
      simp only [BitVec.toNat_xor, BitVec.toNat_ofNat]; rw [Nat.mod_eq_of_lt (by omega), Nat.mod_eq_of_lt (by omega)]) (fun a b ha hb => Nat.xor_lt_two_pow ha hb)
    exact ⟨_, _, by simp only [binOp, Op.intBits, ne_eq, not_true_eq_false, if_false, Sem.run_pure]; rfl, h5, by simp only [rep]; exact congrArg _ this⟩
  · obtain ⟨⟨h1, h2, h3, h4⟩, h5⟩ := h
    have := and_i64 ⟨h1, h2⟩ ⟨h3, h4⟩ (fun a b => a ^^^ (a &&& b)) (fun a b => a &&& ~~~b) (fun a b ha hb => by
      have e : (BitVec.ofNat 64 a &&& ~~~(BitVec.ofNat 64 b)) = BitVec.ofNat 64 a ^^^ (BitVec.ofNat 64 a &&& BitVec.ofNat 64 b) := by
        apply BitVec.eq_of_getLsbD_eq
        intro i _
        simp only [BitVec.getLsbD_and, BitVec.getLsbD_not, BitVec.getLsbD_xor]
        cases (BitVec.ofNat 64 a).getLsbD i <;> cases (BitVec.ofNat 64 b).getLsbD i <;> simp_all
      simp only [e, BitVec.toNat_xor, BitVec.toNat_and, BitVec.toNat_ofNat]; rw [Nat.mod_eq_of_lt (by omega), Nat.mod_eq_of_lt (by omega)]) (fun a b ha hb => Nat.xor_lt_two_pow ha (Nat.and_lt_two_pow a hb))
    exact ⟨_, _, by simp only [binOp, Op.intBits, ne_eq, not_true_eq_false, if_false, Sem.run_pure]; rfl, h5, by simp only [rep]; exact congrArg _ this⟩
  · exact ⟨_, _, by simp [binOp, Op.intCmp]; rfl, h, by simp only [rep]; exact congrArg _ (Bool.eq_iff_iff.2 (by simp))⟩
  · exact ⟨_, _, by simp [binOp, Op.intCmp]; rfl, h, by simp only [rep]; exact congrArg _ (Bool.eq_iff_iff.2 (by simp))⟩
  · exact ⟨_, _, by simp [binOp, Op.intCmp]; rfl, h, by simp [rep]⟩
  · exact ⟨_, _, by simp [binOp, Op.intCmp]; rfl, h, by simp [rep]⟩
  · exact ⟨_, _, by simp [binOp, Op.intCmp]; rfl, h, by simp [rep]⟩
  · exact ⟨_, _, by simp [binOp, Op.intCmp]; rfl, h, by simp [rep]⟩
  · cases h
theorem shiftWp_sound {op : BinOp} {t : TypeId} {k k' : IntKind} {x y : Int} {K : AV → Prop} (h : shiftWp op k x y K) :
    ∃ v r, (binOp op t (.int k x) (.int k' y)).run P w = .ok v w ∧ K r ∧ rep w M r v := by
  unfold shiftWp at h
  split at h
  · obtain ⟨⟨h1, h2, h3⟩, h4⟩ := h
    have h5 : ¬ y < 0 := by omega
    have h6 : min y.toNat IntKind.i64.bits = y.toNat := by show min y.toNat 64 = _; omega
    refine ⟨.int .i64 (IntKind.i64.wrap (x * 2 ^ min y.toNat IntKind.i64.bits)), _, by simp only [binOp, Op.shift, if_neg h5, Sem.run_pure], h4, ?_⟩
    simp only [rep, h6]
    exact congrArg _ (IntWalk.i64_in _ h3)
  · obtain ⟨⟨h1, h2, h3⟩, h4⟩ := h
    have h5 : ¬ y < 0 := by omega
    have h6 : min y.toNat k.bits = y.toNat := by rw [h3]; omega
    have h7 : Int.fdiv x (2 ^ y.toNat) = x / 2 ^ y.toNat := Int.fdiv_eq_ediv_of_nonneg _ (Int.le_of_lt (Int.pow_pos (by decide)))
    refine ⟨.int k (Int.fdiv x (2 ^ min y.toNat k.bits)), _, by simp only [binOp, Op.shift, if_neg h5, Sem.run_pure], h4, ?_⟩
    simp only [rep, h6, h7]
  · cases h
theorem size_mk (l : List UInt8) : (⟨l.toArray⟩ : ByteArray).size = l.length := by simp [ByteArray.size]
theorem hsz (bs : ByteArray) : bs.size = bs.data.toList.length := by rw [Array.length_toList]; rfl
theorem toList_loop (bs : ByteArray) : ∀ (n i : Nat) (r : List UInt8), bs.size - i = n → ByteArray.toList.loop bs i r = r.reverse ++ bs.data.toList.drop i := by
  intro n
  induction n with
  | zero =>
    intro i r h
    rw [ByteArray.toList.loop]
    have h1 : ¬ i < bs.size := by omega
    rw [if_neg h1, List.drop_eq_nil_of_le (by rw [← hsz bs]; omega)]
    simp
  | succ n ih =>
    intro i r h
    rw [ByteArray.toList.loop]
    have h1 : i < bs.size := by omega
    have h2 : i < bs.data.toList.length := by rw [← hsz bs]; exact h1
    rw [if_pos h1, ih (i + 1) _ (by omega), List.drop_eq_getElem_cons h2]
    have h3 : bs.get! i = bs.data.toList[i] := by
      have h4 : i < bs.data.size := h1
      show bs.data[i]! = _
      rw [getElem!_pos bs.data i h4]
      simp
    rw [h3]
    simp
theorem toList_mk (l : List UInt8) : (⟨l.toArray⟩ : ByteArray).toList = l := by
  unfold ByteArray.toList
  rw [toList_loop _ _ 0 [] rfl]
  simp
theorem strWp_sound {op : BinOp} {t : TypeId} {x y : List UInt8} {K : AV → Prop} (h : strWp op x y K) :
    ∃ v r, (binOp op t (.string ⟨x.toArray⟩) (.string ⟨y.toArray⟩)).run P w = .ok v w ∧ K r ∧ rep w M r v := by
  unfold strWp at h
  split at h
  · obtain ⟨h1, h2⟩ := h
    refine ⟨.string (⟨x.toArray⟩ ++ ⟨y.toArray⟩), _, ?_, h2, ?_⟩
    · have h3 : ¬ ((((⟨x.toArray⟩ : ByteArray).size + (⟨y.toArray⟩ : ByteArray).size : Nat) : Int) > IntKind.i64.max) := by
        simp only [size_mk]
        have := h1.2
        have e : IntKind.i64.max = 9223372036854775807 := by decide
        rw [e]; omega
      simp only [binOp, Op.stringOp, if_neg h3, Sem.run_pure]
    · simp only [rep]
      congr 1
  · exact ⟨_, _, by simp only [binOp, Op.stringOp, Sem.run_pure, toList_mk]; rfl, h, by simp only [rep]; exact congrArg _ (Bool.eq_iff_iff.2 (by simp))⟩
  · exact ⟨_, _, by simp only [binOp, Op.stringOp, Sem.run_pure, toList_mk]; rfl, h, by simp only [rep]; exact congrArg _ (Bool.eq_iff_iff.2 (by simp))⟩
  · exact ⟨_, _, by simp only [binOp, Op.stringOp, Sem.run_pure, toList_mk]; rfl, h, by simp [rep]⟩
  · cases h
theorem eqlBool {t : TypeId} (hd : P.underlying t = some .bool) (x y : Bool) : (Op.equal t (.bool x) (.bool y)).run P w = .ok (x == y) w := by
  show (Op.equalIn (9999 + 1) t (.bool x) (.bool y)).run P w = .ok (x == y) w
  unfold Op.equalIn
  rw [Sem.run_bind, run_und hd]
  rfl
theorem binWp_sound {op : BinOp} {t : TypeId} {ti : TyI} (ht : TI P t = some ti) {a b : AV} {u v : Value} {K : AV → Prop} (ha : rep w M a u) (hb : rep w M b v) (h : binWp ti.ty op a b K) :
    ∃ x r, (binOp op t u v).run P w = .ok x w ∧ K r ∧ rep w M r x := by
  obtain ⟨i, d, z, hi, hd, hz, rfl, _, _⟩ := TI_inv ht
  unfold binWp at h
  split at h
  · simp only [rep] at ha hb
    subst ha hb
    split at h
    · exact shiftWp_sound h
    · exact shiftWp_sound h
    · obtain ⟨rfl, h2⟩ := h
      exact intWp_sound h2
  · simp only [rep] at ha hb
    subst ha hb
    have hbl : Ty.of d = .bool → d = .bool := by intro he; cases d <;> simp [Ty.of] at he; rfl
    split at h
    · rename_i he
      have := hbl he; subst this
      exact ⟨_, _, by simp [binOp, eqlBool hd]; rfl, h, by simp [rep]⟩
    · rename_i he
      have := hbl he; subst this
      exact ⟨_, _, by simp [binOp, eqlBool hd]; rfl, h, by simp [rep, bne]⟩
    · cases h
  · simp only [rep] at ha hb
    subst ha hb
    exact strWp_sound h
  · cases h
theorem unWp_sound {op : UnOp} {a : AV} {u : Value} {K : AV → Prop} (ha : rep w M a u) (h : unWp op a K) :
    ∃ x r, (Op.unary op u).run P w = .ok x w ∧ K r ∧ rep w M r x := by
  unfold unWp at h
  split at h
  · simp only [rep] at ha; subst ha
    exact ⟨_, _, by simp [Op.unary]; rfl, h, by simp [rep]⟩
  · simp only [rep] at ha; subst ha
    exact ⟨_, _, by simp [Op.unary, Op.intArith, IntWalk.i64_in _ h.1]; rfl, h.2, by simp [rep]⟩
  · simp only [rep] at ha; subst ha
    exact ⟨_, _, by simp [Op.unary, Op.intArith]; rfl, h, by simp [rep]⟩
  · cases h
theorem lenOf_int (n : Nat) : goInt n = .int .i64 n := rfl
theorem lenWp_sound {t ty : TypeId} {ti : TyI} (ht : TI P t = some ti) {a : AV} {u : Value} {K : AV → Prop} (ha : rep w M a u) (h : lenWp ti a K) :
    ∃ x r, (Builtin.len_ #[t] ty #[u]).run P w = .ok x w ∧ K r ∧ rep w M r x := by
  obtain ⟨i, d, z, hi, hd, hz, rfl, _, _⟩ := TI_inv ht
  unfold lenWp at h
  simp only at h
  have hsl : ∀ e, Ty.of d = .slice e → d = .slice e := by intro e he; cases d <;> simp [Ty.of] at he; rw [he]
  have hst : Ty.of d = .str → d = .string := by intro he; cases d <;> simp [Ty.of] at he; rfl
  split at h
  · rename_i e sz xs he
    have := hsl _ he; subst this
    simp only [rep] at ha
    obtain ⟨A, cap, rfl, _⟩ := ha
    exact ⟨_, _, by simp [Builtin.len_, run_und hd]; rfl, h, by simp [rep, goInt]⟩
  · rename_i e b sz xs he
    have := hsl _ he; subst this
    simp only [rep] at ha
    obtain ⟨cap, _, _, rfl, _⟩ := ha
    exact ⟨_, _, by simp [Builtin.len_, run_und hd]; rfl, h, by simp [rep, goInt]⟩
  · rename_i e A n c he
    have := hsl _ he; subst this
    simp only [rep] at ha
    subst ha
    exact ⟨_, _, by simp [Builtin.len_, run_und hd]; rfl, h, by simp [rep, goInt]⟩
  · rename_i e he
    have := hsl _ he; subst this
    simp only [rep] at ha
    obtain ⟨A, rfl⟩ := ha
    exact ⟨_, _, by simp [Builtin.len_, run_und hd]; rfl, h, by simp [rep, goInt]⟩
  · rename_i l he
    have := hst he; subst this
    simp only [rep] at ha
    subst ha
    exact ⟨_, _, by simp [Builtin.len_, run_und hd]; rfl, h, by simp [rep, goInt, ByteArray.size]⟩
  · cases h
end
end Go.AX
end
section
/- Soundness of the operations: addresses, conversions, composites, appends; and all of them together. -/
namespace Go.AX
open Go

section
variable {P : Program} {gl : Globs} {w : World} {M : Marks} {σ : Store}

theorem of_slice {d : TypeDesc} {e : TypeId} (h : Ty.of d = .slice e) : d = .slice e := by cases d <;> simp [Ty.of] at h; rw [h]
theorem of_arr {d : TypeDesc} {n : Nat} {e : TypeId} (h : Ty.of d = .arr n e) : d = .array n e := by cases d <;> simp [Ty.of] at h; rw [h.1, h.2]
theorem of_str {d : TypeDesc} (h : Ty.of d = .str) : d = .string := by cases d <;> simp [Ty.of] at h; rfl
theorem of_int {d : TypeDesc} {k : IntKind} (h : Ty.of d = .int k) : d = .int k := by cases d <;> simp [Ty.of] at h; rw [h]
theorem of_ptr {d : TypeDesc} {e : TypeId} (h : Ty.of d = .ptr e) : d = .pointer e := by cases d <;> simp [Ty.of] at h; rw [h]
theorem of_func {d : TypeDesc} (h : Ty.of d = .func) : ∃ a b c, d = .func a b c := by cases d <;> simp [Ty.of] at h; exact ⟨_, _, _, rfl⟩
theorem of_strct {d : TypeDesc} {fs : List (Nat × TypeId)} (h : Ty.of d = .strct fs) : ∃ gs, d = .struct gs ∧ fs = gs.toList.map fun f => (f.offset, f.type) := by
  cases d <;> simp [Ty.of] at h; exact ⟨_, rfl, h.symm⟩

theorem nil_out {op : BinOp} {t : TypeId} {u v : Value} {q : Bool} {K : AV → Prop} (hq : ∀ n, (Op.equalIn (n + 1) t u v).run P w = .ok q w)
    (h1 : binOp .eql t u v = (do pure (.bool (← Op.equal t u v)))) (h2 : binOp .neq t u v = (do pure (.bool (!(← Op.equal t u v)))))
    (hK : match op with | .eql => K (.bool q) | .neq => K (.bool !q) | _ => False) : ∃ x r, (binOp op t u v).run P w = .ok x w ∧ K r ∧ rep w M r x := by
  have hq' : (Op.equal t u v).run P w = .ok q w := hq 9999
  split at hK
  · exact ⟨.bool q, _, by rw [h1, Sem.run_bind, hq']; rfl, hK, by simp [rep]⟩
  · exact ⟨.bool (!q), _, by rw [h2, Sem.run_bind, hq']; rfl, hK, by simp [rep]⟩
  · cases hK
theorem nilWp_sound {op : BinOp} {t : TypeId} {ti : TyI} (ht : TI P t = some ti) {a b : AV} {u v : Value} {K : AV → Prop} (ha : rep w M a u) (hb : rep w M b v) (h : nilWp ti.ty op a b K) :
    ∃ x r, (binOp op t u v).run P w = .ok x w ∧ K r ∧ rep w M r x := by
  obtain ⟨i, d, z, hi, hd, hz, rfl, _, _⟩ := TI_inv ht
  unfold nilWp at h
  simp only at h
  split at h
  · rename_i he
    have := of_slice he; subst this
    simp only [rep] at ha hb; subst ha hb
    exact nil_out (q := true) (fun n => by unfold Op.equalIn; rw [Sem.run_bind, run_und hd]; rfl) rfl rfl h
  · rename_i he
    have := of_slice he; subst this
    simp only [rep] at ha hb; subst ha hb
    exact nil_out (q := false) (fun n => by unfold Op.equalIn; rw [Sem.run_bind, run_und hd]; rfl) rfl rfl h
  · rename_i he
    have := of_slice he; subst this
    simp only [rep] at ha hb; subst hb
    obtain ⟨cap, _, _, rfl, _⟩ := ha
    exact nil_out (q := false) (fun n => by unfold Op.equalIn; rw [Sem.run_bind, run_und hd]; rfl) rfl rfl h
  · rename_i he
    have := of_slice he; subst this
    simp only [rep] at ha hb; subst hb
    obtain ⟨A, rfl⟩ := ha
    exact nil_out (q := false) (fun n => by unfold Op.equalIn; rw [Sem.run_bind, run_und hd]; rfl) rfl rfl h
  · rename_i xs he
    have := of_slice he; subst this
    simp only [rep] at ha hb; subst hb
    obtain ⟨A, cap, rfl, hc, hx⟩ := ha
    cases A with
    | none =>
      have hxs : xs = [] := by
        rcases hx with hx | ⟨b, o, hA, _⟩
        · exact hx
        · cases hA
      exact nil_out (q := true) (fun n => by unfold Op.equalIn; rw [Sem.run_bind, run_und hd]; rfl) rfl rfl (h.1 hxs)
    | some ad => exact nil_out (q := false) (fun n => by unfold Op.equalIn; rw [Sem.run_bind, run_und hd]; rfl) rfl rfl h.2
  · rename_i he
    have := of_ptr he; subst this
    simp only [rep] at ha hb; subst ha hb
    exact nil_out (q := true) (fun n => by unfold Op.equalIn; rw [Sem.run_bind, run_und hd]; rfl) rfl rfl h
  · rename_i he
    have := of_ptr he; subst this
    simp only [rep] at ha hb; subst ha hb
    exact nil_out (q := false) (fun n => by unfold Op.equalIn; rw [Sem.run_bind, run_und hd]; rfl) rfl rfl h
  · rename_i he
    have := of_ptr he; subst this
    simp only [rep] at ha hb; subst hb
    obtain ⟨b, o, rfl, _⟩ := ha
    exact nil_out (q := false) (fun n => by unfold Op.equalIn; rw [Sem.run_bind, run_und hd]; rfl) rfl rfl h
  · rename_i he
    obtain ⟨x, y, z, rfl⟩ := of_func he
    simp only [rep] at ha hb; subst ha hb
    exact nil_out (q := true) (fun n => by unfold Op.equalIn; rw [Sem.run_bind, run_und hd]; rfl) rfl rfl h
  · rename_i he
    obtain ⟨x, y, z, rfl⟩ := of_func he
    simp only [rep] at ha hb; subst hb
    obtain ⟨us, vs, rfl, _⟩ := ha
    exact nil_out (q := false) (fun n => by unfold Op.equalIn; rw [Sem.run_bind, run_und hd]; rfl) rfl rfl h
  · cases h

theorem of_u8 {e : TypeId} (h : isU8 P e) : P.underlying e = some (.int .u8) := by
  unfold isU8 at h
  split at h
  · rename_i te hte
    obtain ⟨_, d, _, _, hd, _, rfl, _, _⟩ := TI_inv hte
    simp only at h
    split at h
    · rename_i he; rw [hd, of_int he]
    · cases h
  · cases h
theorem conv_run {s d e : TypeId} {v x : Value} (hs : P.underlying s = some (.slice e)) (hd : P.underlying d = some .string) (he : isU8 P e) (h : (Conv.bytesToString v).run P w = .ok x w) (hv : ∀ t, v ≠ .string t := by intro t; simp) (hi : ∀ k n, v ≠ .int k n := by intro k n; simp) :
    (convert s d v).run P w = .ok x w := by
  unfold convert
  rw [Sem.run_bind, run_und hs, Result.andThen_ok, Sem.run_bind, run_und hd, Result.andThen_ok]
  cases v <;> first | (exact absurd rfl (hv _)) | (exact absurd rfl (hi _ _)) | (simp [Conv.bytesToString] at h; done) | skip
  simp only [Sem.run_bind, run_und (of_u8 he), Result.andThen_ok]
  exact h
theorem push_all (l : List UInt8) : ∀ s : ByteArray, (l.map fun c : UInt8 => (c.toNat : Int)).foldl (fun r n => r.push (UInt8.ofNat n.toNat)) s = ⟨s.data ++ l.toArray⟩ := by
  induction l with
  | nil => intro s; simp
  | cons c l ih =>
    intro s
    simp only [List.map_cons, List.foldl_cons, ih]
    have : (s.push (UInt8.ofNat ((c.toNat : Int)).toNat)).data = s.data.push c := by simp [ByteArray.push]
    rw [this]
    simp
theorem bytes_run {ad : Addr} {n cap : Nat} {l : List UInt8} (hn : n = l.length) (h : ∀ (j : Nat) c, l[j]? = some c → w.cell? (ad.add j) = some (.int .u8 c.toNat)) :
    (Conv.bytesToString (.slice (some ad) n cap)).run P w = .ok (.string ⟨l.toArray⟩) w := by
  subst hn
  have h1 : (loadCells ad l.length).run P w = .ok ((l.map fun c : UInt8 => (c.toNat : Int)).map (Value.int .u8)).toArray w := by
    have := run_loadCells_list (P := P) w ad ((l.map fun c : UInt8 => (c.toNat : Int)).map (Value.int .u8)) (fun j v hj => by
      simp only [List.getElem?_map] at hj
      cases hx : l[j]? with
      | none => rw [hx] at hj; simp at hj
      | some c => rw [hx] at hj; simp at hj; rw [← hj]; exact h j c hx)
    simpa using this
  rw [run_bytesToString w ad _ _ _ h1, push_all]
  have : ByteArray.empty.data = #[] := rfl
  simp [this]
theorem byte_cell {b o : Nat} {l : List UInt8} (hr : repRows w M b o 1 (l.map fun c => [AV.byte c.toNat])) {j : Nat} {c : UInt8} (hj : l[j]? = some c) : w.cell? ((⟨b, o, none⟩ : Addr).add j) = some (.int .u8 c.toNat) := by
  have := repRows_get hr j [AV.byte c.toNat] (by simp [hj])
  obtain ⟨_, h2⟩ := this
  obtain ⟨_, v, h3, _, h4⟩ := repCells_get h2 0 _ rfl
  simp only [rep] at h4
  subst h4
  rw [addr_add]
  simpa using h3
theorem convOwn_sound {s d : TypeId} {si di : TyI} (hs : TI P s = some si) (hd : TI P d = some di) (hI : Inv gl w M σ) {b o n c : Nat} {K : AV → Prop} (h : convOwn P si.ty di.ty σ b o n K) :
    ∃ x r, (convert s d (.slice (some ⟨b, o, none⟩) n c)).run P w = .ok x w ∧ K r ∧ rep w M r x := by
  obtain ⟨i, ds, z, _, hus, _, rfl, _, _⟩ := TI_inv hs
  obtain ⟨i', dd, z', _, hud, _, rfl, _, _⟩ := TI_inv hd
  unfold convOwn at h
  simp only at h
  split at h
  · rename_i e e1 e2
    have := of_slice e1; subst this
    have := of_str e2; subst this
    split at h
    · rename_i cs hl
      obtain ⟨hu8, hlen, l, hcs, hK⟩ := h
      obtain ⟨cur, e', hb, _, hr, _⟩ := hI.objs _ (look_mem hl)
      simp only at hb
      have hn : n = l.length := by
        have := congrArg List.length hcs
        simp at this
        omega
      refine ⟨_, _, conv_run hus hud hu8 (bytes_run (l := l) hn fun j c hj => ?_), hK, by simp [rep]⟩
      have h1 : (l.map fun c => AV.byte c.toNat)[j]? = some (AV.byte c.toNat) := by simp [hj]
      rw [← hcs] at h1
      have hjn : j < n := by rw [hn]; exact (List.getElem?_eq_some_iff.1 hj).1
      rw [List.getElem?_take, if_pos hjn, List.getElem?_drop] at h1
      obtain ⟨v, hv, hv2⟩ := repAll_get hr _ _ h1
      simp only [rep] at hv2
      subst hv2
      rw [addr_add]
      have hv3 : cur[o + j]? = some (.int .u8 c.toNat) := by simpa using hv
      simp only [World.cell?, hb]
      simpa using hv3
    · cases h
  · cases h
theorem convWp_sound {s d : TypeId} {si di : TyI} (hs : TI P s = some si) (hd : TI P d = some di) {a : AV} {u : Value} {K : AV → Prop} (ha : rep w M a u) (h : convWp P si.ty di.ty a K) :
    ∃ x r, (convert s d u).run P w = .ok x w ∧ K r ∧ rep w M r x := by
  obtain ⟨i, ds, z, _, hus, _, rfl, _, _⟩ := TI_inv hs
  obtain ⟨i', dd, z', _, hud, _, rfl, _, _⟩ := TI_inv hd
  unfold convWp at h
  simp only at h
  split at h
  · rename_i k1 k2 n e1 e2
    have := of_int e1; subst this
    have := of_int e2; subst this
    simp only [rep] at ha; subst ha
    refine ⟨.int .i64 (IntKind.i64.wrap n), _, ?_, h.2, by simp only [rep]; exact congrArg _ (IntWalk.i64_in _ h.1)⟩
    unfold convert
    rw [Sem.run_bind, run_und hus, Result.andThen_ok, Sem.run_bind, run_und hud]; rfl
  · rename_i k0 k1 k2 n _ e1 e2
    have := of_int e1; subst this
    have := of_int e2; subst this
    simp only [rep] at ha; subst ha
    refine ⟨_, _, ?_, h, rfl⟩
    unfold convert
    rw [Sem.run_bind, run_und hus, Result.andThen_ok, Sem.run_bind, run_und hud]; rfl
  · rename_i l e1 e2
    have := of_str e1; subst this
    have := of_str e2; subst this
    simp only [rep] at ha; subst ha
    refine ⟨.string ⟨l.toArray⟩, _, ?_, h, by simp [rep]⟩
    unfold convert
    rw [Sem.run_bind, run_und hus, Result.andThen_ok, Sem.run_bind, run_und hud]; rfl
  · rename_i e xs e1 e2
    have := of_slice e1; subst this
    have := of_str e2; subst this
    obtain ⟨hu8, l, rfl, hK⟩ := h
    simp only [rep] at ha
    obtain ⟨A, cap, rfl, hcap, hr⟩ := ha
    rcases hr with hr | ⟨b, o, rfl, hr⟩
    · have : l = [] := by cases l <;> simp at hr ⊢
      subst this
      cases A with
      | none => exact ⟨_, _, conv_run hus hud hu8 (x := .string ⟨#[]⟩) (by simp [Conv.bytesToString]; rfl), hK, by simp [rep]⟩
      | some ad =>
        refine ⟨_, _, conv_run hus hud hu8 (bytes_run (l := []) rfl (by simp)), hK, by simp [rep]⟩
    · exact ⟨_, _, conv_run hus hud hu8 (bytes_run (by simp) fun j c hj => byte_cell hr hj), hK, by simp [rep]⟩
  · rename_i e b xs e1 e2
    have := of_slice e1; subst this
    have := of_str e2; subst this
    obtain ⟨hu8, l, rfl, hK⟩ := h
    simp only [rep] at ha
    obtain ⟨cap, e, n, rfl, hcap, hr, _⟩ := ha
    exact ⟨_, _, conv_run hus hud hu8 (bytes_run (by simp) fun j c hj => byte_cell hr hj), hK, by simp [rep]⟩
  · rename_i e e1 e2
    have := of_slice e1; subst this
    have := of_str e2; subst this
    simp only [rep] at ha
    obtain ⟨ad, rfl⟩ := ha
    exact ⟨_, _, conv_run hus hud h.1 (bytes_run (l := []) rfl (by simp)), h.2, by simp [rep]⟩
  · rename_i e n c e1 e2
    have := of_slice e1; subst this
    have := of_str e2; subst this
    simp only [rep] at ha; subst ha
    exact ⟨_, _, conv_run hus hud h.1 (x := .string ⟨#[]⟩) (by simp [Conv.bytesToString]; rfl), h.2, by simp [rep]⟩
  · cases h

theorem fieldPl_inv {d : TypeDesc} {fs : List (Nat × TypeId)} (hf : Ty.of d = .strct fs) {f o n : Nat} (h : fieldPl P fs f = some (o, n)) :
    ∃ gs g i, d = .struct gs ∧ gs[f]? = some g ∧ g.offset = o ∧ P.info? g.type = some i ∧ i.size = n := by
  obtain ⟨gs, rfl, rfl⟩ := of_strct hf
  unfold fieldPl at h
  split at h
  · rename_i o' t' hx
    simp only [List.getElem?_map] at hx
    cases hg : gs.toList[f]? with
    | none => rw [hg] at hx; simp at hx
    | some g =>
      rw [hg] at hx
      simp only [Option.map_some, Option.some.injEq, Prod.mk.injEq] at hx
      split at h
      · rename_i ti hti
        obtain ⟨i, d, z, hi, _, _, rfl, _, _⟩ := TI_inv hti
        simp only [Option.some.injEq, Prod.mk.injEq] at h
        exact ⟨gs, g, i, rfl, by simpa using hg, hx.1.trans h.1, by rw [hx.2]; exact hi, h.2⟩
      · cases h
  · cases h

theorem fieldWp_sound {t : TypeId} {ti : TyI} (ht : TI P t = some ti) {a : AV} {u : Value} {f : Nat} {K : AV → Prop} (ha : rep w M a u) (h : fieldWp P ti a f K) :
    ∃ x r, (Instr.fieldAt t u f).run P w = .ok x w ∧ K r ∧ rep w M r x := by
  obtain ⟨i, d, z, hi, hd, hz, rfl, _, _⟩ := TI_inv ht
  unfold fieldWp at h
  simp only at h
  split at h
  · rename_i fs hfs
    split at h
    · rename_i o n hp
      obtain ⟨gs, g, gi, rfl, hg, rfl, hgi, rfl⟩ := fieldPl_inv hfs hp
      obtain ⟨hn, h⟩ := h
      have hrun : ∀ b p, (Instr.fieldAt t (.pointer (some ⟨b, p, none⟩)) f).run P w = .ok (.pointer (some ⟨b, p + g.offset, none⟩)) w := by
        intro b p
        simp [Instr.fieldAt, run_und hd, hg, Instr.sureAddr, fieldPlace, run_size hgi, hn, addr_add]
      split at h
      · rename_i cs
        simp only [rep] at ha
        obtain ⟨b, p, rfl, hc⟩ := ha
        exact ⟨_, _, hrun b p, h, by simp only [rep]; exact ⟨b, p + g.offset, rfl, repCells_drop hc _⟩⟩
      · rename_i b p
        simp only [rep] at ha; subst ha
        exact ⟨_, _, hrun b p, h, by simp [rep]⟩
      · cases h
    · cases h
  · cases h

theorem indexWp_sound {t : TypeId} {ti : TyI} (ht : TI P t = some ti) {a x : AV} {u v : Value} {K : AV → Prop} (ha : rep w M a u) (hx : rep w M x v) (h : indexWp P ti a x K) :
    ∃ y r, (Instr.indexAt t u v).run P w = .ok y w ∧ K r ∧ rep w M r y := by
  obtain ⟨i, d, z, hi, hd, hz, rfl, _, _⟩ := TI_inv ht
  unfold indexWp at h
  simp only at h
  split at h
  · rename_i k n
    simp only [rep] at hx; subst hx
    split at h
    · rename_i e he
      have := of_slice he; subst this
      split at h
      · rename_i te hte
        obtain ⟨ei, ed, ez, hei, hed, _, rfl, _, _⟩ := TI_inv hte
        simp only at h
        have hrun : ∀ b o len cap, 0 ≤ n → n < ((len : Nat) : Int) → (Instr.indexAt t (.slice (some ⟨b, o, none⟩) len cap) (.int k n)).run P w = .ok (.pointer (some ⟨b, o + n.toNat * ei.size, none⟩)) w := by
          intro b o len cap h1 h2
          simp [Instr.indexAt, asIntOf, run_und hd, h1, h2, run_size hei, addr_add]
        have hrow : ∀ b o sz (xs : List (List AV)) y, repRows w M b o sz xs → xs[n.toNat]? = some y → rep w M (.cptr y) (.pointer (some ⟨b, o + n.toNat * sz, none⟩)) := by
          intro b o sz xs y hr hy
          simp only [rep]
          exact ⟨b, _, rfl, (repRows_get hr _ _ hy).2⟩
        split at h
        · rename_i sz xs
          obtain ⟨rfl, h1, y, hy, hK⟩ := h
          simp only [rep] at ha
          obtain ⟨A, cap, rfl, _, hr⟩ := ha
          have hlt := (List.getElem?_eq_some_iff.1 hy).1
          rcases hr with rfl | ⟨b, o, rfl, hr⟩
          · simp at hy
          · exact ⟨_, _, hrun b o _ _ h1 (by omega), hK, hrow b o _ xs y hr hy⟩
        · rename_i b sz xs
          obtain ⟨rfl, h1, y, hy, hK⟩ := h
          simp only [rep] at ha
          obtain ⟨cap, _, _, rfl, _, hr, _⟩ := ha
          have hlt := (List.getElem?_eq_some_iff.1 hy).1
          exact ⟨_, _, hrun b 0 _ _ h1 (by omega), hK, hrow b 0 _ xs y hr hy⟩
        · rename_i b o len cap
          obtain ⟨⟨h1, h2⟩, hK⟩ := h
          simp only [rep] at ha; subst ha
          exact ⟨_, _, hrun b o _ _ h1 h2, hK, by simp [rep]⟩
        · cases h
      · cases h
    · rename_i m e he
      have := of_arr he; subst this
      split at h
      · rename_i te hte
        obtain ⟨ei, ed, ez, hei, hed, _, rfl, _, _⟩ := TI_inv hte
        simp only at h
        have hrun : ∀ b o, 0 ≤ n → n < (m : Int) → 1 < m → (Instr.indexAt t (.pointer (some ⟨b, o, none⟩)) (.int k n)).run P w = .ok (.pointer (some ⟨b, o + n.toNat * ei.size, none⟩)) w := by
          intro b o h1 h2 h3
          simp [Instr.indexAt, asIntOf, run_und hd, h1, h2, run_size hei, addr_add, Instr.sureAddr]
        split at h
        · rename_i cs
          obtain ⟨⟨h1, h2, h3⟩, hK⟩ := h
          simp only [rep] at ha
          obtain ⟨b, o, rfl, hc⟩ := ha
          exact ⟨_, _, hrun b o h1 h2 h3, hK, by simp only [rep]; exact ⟨b, _, rfl, repCells_drop hc _⟩⟩
        · rename_i b o
          obtain ⟨⟨h1, h2, h3⟩, hK⟩ := h
          simp only [rep] at ha; subst ha
          exact ⟨_, _, hrun b o h1 h2 h3, hK, by simp [rep]⟩
        · cases h
      · cases h
    · cases h
  · cases h
end
end Go.AX
end
section
/- Soundness of the operations: elements, composites, make and append. -/
namespace Go.AX
open Go

section
variable {P : Program} {gl : Globs} {w : World} {M : Marks} {σ : Store}

theorem getElem?_mk (l : List UInt8) (i : Nat) : (⟨l.toArray⟩ : ByteArray)[i]? = l[i]? := by
  by_cases h : i < l.length
  · have h' : i < (⟨l.toArray⟩ : ByteArray).size := by rw [size_mk]; exact h
    rw [getElem?_pos _ i h', List.getElem?_eq_getElem h]
    rfl
  · have h' : ¬ i < (⟨l.toArray⟩ : ByteArray).size := by rw [size_mk]; exact h
    rw [getElem?_neg _ i h', List.getElem?_eq_none (by omega)]

theorem elemWp_sound {t : TypeId} {ti : TyI} (ht : TI P t = some ti) {a x : AV} {u v : Value} {K : AV → Prop} (ha : rep w M a u) (hx : rep w M x v) (h : elemWp P ti a x K) :
    ∃ y r, (Instr.index t u v).run P w = .ok y w ∧ K r ∧ rep w M r y := by
  obtain ⟨i, d, z, hi, hd, hz, rfl, _, _⟩ := TI_inv ht
  unfold elemWp at h
  simp only at h
  split at h
  · rename_i k n l
    split at h
    · rename_i he
      have := of_str he; subst this
      obtain ⟨h1, c, hc, hK⟩ := h
      simp only [rep] at ha hx; subst ha hx
      refine ⟨_, _, ?_, hK, rfl⟩
      simp [Instr.index, asIntOf, run_und hd, h1, getElem?_mk, hc]
    · cases h
  · rename_i k n cs
    split at h
    · rename_i m e he
      have := of_arr he; subst this
      split at h
      · rename_i te hte
        obtain ⟨ei, ed, ez, hei, hed, _, rfl, _, _⟩ := TI_inv hte
        simp only at h
        obtain ⟨⟨h1, h2, h3, h4⟩, hK⟩ := h
        simp only [rep] at ha hx; subst hx
        obtain ⟨vs, rfl, hr, hone⟩ := ha
        have hl := repAll_length hr
        rw [Nat.add_mul, Nat.one_mul] at h4
        cases hag : (Ty.of ed).agg with
        | true =>
          rw [hag] at hK
          refine ⟨.agg (vs.toArray.extract (n.toNat * ei.size) (n.toNat * ei.size + ei.size)), _, ?_, hK, ?_⟩
          · simp [Instr.index, asIntOf, run_und hd, h1, h2, run_size hei, part, run_isAgg hed, hag]
          · simp only [mkV, cond_true, rep]
            have hx : (vs.toArray.extract (n.toNat * ei.size) (n.toNat * ei.size + ei.size)) = ((vs.drop (n.toNat * ei.size)).take ei.size).toArray := by
              apply Array.ext'
              simp
            refine ⟨(vs.drop (n.toNat * ei.size)).take ei.size, by rw [hx], repAll_of_get (by simp [hl]) fun j a v ha hv => ?_, fun v hv => hone v (List.mem_of_mem_drop (List.mem_of_mem_take hv))⟩
            rw [List.getElem?_take] at ha hv
            split at ha
            · rename_i hj
              rw [if_pos hj] at hv
              rw [List.getElem?_drop] at ha hv
              obtain ⟨y, hy, hr'⟩ := repAll_get hr _ _ ha
              rw [hy] at hv; cases hv; exact hr'
            · cases ha
        | false =>
          rw [hag] at hK
          have hlt : n.toNat * ei.size < vs.length := by omega
          have hlt2 : n.toNat * ei.size < cs.length := by omega
          obtain ⟨y, hy, hr'⟩ := repAll_get hr _ _ (List.getElem?_eq_getElem hlt2)
          refine ⟨y, _, ?_, hK, ?_⟩
          · have : vs.toArray[n.toNat * ei.size]? = some y := by simpa using hy
            simp [Instr.index, asIntOf, run_und hd, h1, h2, run_size hei, part, run_isAgg hed, hag, hy]
          · simp only [mkV, cond_false]
            have e1 : ei.size = (ei.size - 1) + 1 := by omega
            have : (List.take ei.size (List.drop (n.toNat * ei.size) cs)).headD AV.top = cs[n.toNat * ei.size] := by
              rw [List.drop_eq_getElem_cons hlt2]
              generalize cs[n.toNat * ei.size] = q
              rw [e1, List.take_succ_cons]
              rfl
            rw [this]; exact hr'
      · cases h
    · cases h
  · cases h

theorem run_mapM_list {α β : Type} (g : α → Sem β) (f : α → β) (w : World) : ∀ (l : List α), (∀ x ∈ l, (g x).run P w = .ok (f x) w) → (l.mapM g).run P w = .ok (l.map f) w
  | [], _ => by simp
  | x :: r, h => by
    have ih := run_mapM_list g f w r fun y hy => h y (List.mem_cons_of_mem _ hy)
    simp [List.mapM_cons, h x (by simp), ih]
theorem allTI_mem {fs : List (Nat × TypeId)} (h : allTI P fs) : ∀ p ∈ fs, ∃ ti, TI P p.2 = some ti := by
  induction fs with
  | nil => intro p hp; cases hp
  | cons q r ih =>
    intro p hp
    rcases List.mem_cons.1 hp with rfl | hp
    · exact Option.isSome_iff_exists.1 h.1
    · exact ih h.2 p hp
theorem places_run {gs : Array Field} (h : allTI P (gs.toList.map fun f => (f.offset, f.type))) (w : World) :
    ∃ pl : Array (Nat × Nat), (gs.mapM fun f => (do pure (f.offset, ← sizeOf f.type) : Sem (Nat × Nat))).run P w = .ok pl w ∧ ∀ i, pl[i]? = fieldPl P (gs.toList.map fun f => (f.offset, f.type)) i := by
  have hm := allTI_mem h
  have hf : ∀ f ∈ gs.toList, ((do pure (f.offset, ← sizeOf f.type) : Sem (Nat × Nat))).run P w = .ok (f.offset, ((TI P f.type).map (·.sz)).getD 0) w := fun f hf => by
    obtain ⟨ti, hti⟩ := hm (f.offset, f.type) (List.mem_map.2 ⟨f, hf, rfl⟩)
    obtain ⟨i, d, z, hi, _, _, rfl, _, _⟩ := TI_inv hti
    simp only at hti
    simp [run_size hi, hti]
  refine ⟨(gs.toList.map fun f => (f.offset, ((TI P f.type).map (·.sz)).getD 0)).toArray, ?_, fun i => ?_⟩
  · rw [Array.mapM_eq_mapM_toList, Sem.run_map, run_mapM_list _ _ w gs.toList hf]
    rfl
  · simp only [fieldPl, List.getElem?_toArray, List.getElem?_map]
    cases hg : gs.toList[i]? with
    | none => simp
    | some f =>
      obtain ⟨ti, hti⟩ := hm (f.offset, f.type) (List.mem_map.2 ⟨f, List.mem_of_getElem? hg, rfl⟩)
      simp only at hti
      simp [hti]

theorem parts_rep {cf : Cfg} {ρ : Env} {a : Act} (hI : Inv gl w M σ) (hF : Fits cf w M ρ a) (parts : Array (Nat × Operand)) :
    ((parts.toList.map fun (i, x) => (i, ev gl ρ x)).length = (parts.map fun (i, x) => (i, a.eval x)).toList.length) ∧
    ∀ (i : Nat) (p : Nat × AV) (v : Nat × Value), (parts.toList.map fun (i, x) => (i, ev gl ρ x))[i]? = some p → (parts.map fun (i, x) => (i, a.eval x)).toList[i]? = some v → p.1 = v.1 ∧ rep w M p.2 v.2 := by
  refine ⟨by simp, fun i p v hp hv => ?_⟩
  simp only [Array.toList_map, List.getElem?_map] at hp hv
  cases hx : parts.toList[i]? with
  | none => rw [hx] at hp; simp at hp
  | some q =>
    rw [hx] at hp hv
    simp only [Option.map_some, Option.some.injEq] at hp hv
    subst hp hv
    exact ⟨rfl, ev_rep hI hF q.2⟩

/-- Rows laid one behind the other. -/
theorem rows_flat {b : Nat} {sz : Nat} : ∀ {zs : List (List AV)} {vs : List Value} {o : Nat}, (∀ e ∈ zs, e.length = sz) → repAll w M zs.flatten vs → (∀ v ∈ vs, v.oneCell' = true) →
    (∀ (j : Nat) v, vs[j]? = some v → o + j < M b ∧ w.cell? ⟨b, o + j, none⟩ = some v) → repRows w M b o sz zs
  | [], _, _, _, _, _, _ => by simp [repRows]
  | e :: zs, vs, o, hl, hr, h1, hc => by
    simp only [List.flatten_cons] at hr
    have he := hl e (by simp)
    have hlen := repAll_length hr
    simp only [List.length_append] at hlen
    simp only [repRows]
    have g : ∀ (j : Nat) a, (e ++ zs.flatten)[j]? = some a → ∃ v, vs[j]? = some v ∧ rep w M a v := fun j a ha => repAll_get hr j a ha
    refine ⟨⟨he, repCells_of_get fun j a ha => ?_⟩, rows_flat (vs := vs.drop sz) (fun e he => hl e (by simp [he])) ?_ (fun v hv => h1 v (List.mem_of_mem_drop hv)) fun j v hv => ?_⟩
    · have hj : j < e.length := (List.getElem?_eq_some_iff.1 ha).1
      obtain ⟨v, hv, hr'⟩ := g j a (by rw [List.getElem?_append_left hj]; exact ha)
      obtain ⟨h2, h3⟩ := hc j v hv
      exact ⟨h2, v, h3, h1 v (List.mem_of_getElem? hv), hr'⟩
    · refine repAll_of_get (by rw [List.length_drop]; omega) fun j a v ha hv => ?_
      obtain ⟨u, hu, hr'⟩ := g (e.length + j) a (by rw [List.getElem?_append_right (by omega)]; simpa using ha)
      rw [List.getElem?_drop, ← he, hu] at hv
      cases hv; exact hr'
    · rw [List.getElem?_drop] at hv
      have := hc _ v hv
      rwa [show o + (sz + j) = o + sz + j by omega] at this
theorem cells_list {b : Nat} : ∀ {as : List AV} {o : Nat}, repCells w M b o as → ∃ vs : List Value, vs.length = as.length ∧ (∀ (j : Nat) v, vs[j]? = some v → w.cell? ⟨b, o + j, none⟩ = some v) ∧ repAll w M as vs ∧ ∀ v ∈ vs, v.oneCell' = true
  | [], o, _ => ⟨[], rfl, by simp, by simp [repAll], by simp⟩
  | a :: as, o, h => by
    simp only [repCells] at h
    obtain ⟨⟨_, v, h1, h2, h3⟩, h4⟩ := h
    obtain ⟨vs, hl, hc, hr, hone⟩ := cells_list h4
    refine ⟨v :: vs, by simp [hl], fun j u hu => ?_, by simp only [repAll]; exact ⟨v, vs, rfl, h3, hr⟩, fun u hu => ?_⟩
    · cases j with
      | zero => simp at hu; subst hu; exact h1
      | succ j =>
        simp at hu
        have := hc j u hu
        rwa [show o + 1 + j = o + (j + 1) by omega] at this
    · rcases List.mem_cons.1 hu with rfl | hu
      · exact h2
      · exact hone u hu
theorem rows_list {b sz : Nat} : ∀ {zs : List (List AV)} {o : Nat}, repRows w M b o sz zs → ∃ vs : List Value, vs.length = zs.length * sz ∧ (∀ (j : Nat) v, vs[j]? = some v → w.cell? ⟨b, o + j, none⟩ = some v) ∧ repAll w M zs.flatten vs ∧ (∀ v ∈ vs, v.oneCell' = true) ∧ ∀ e ∈ zs, e.length = sz
  | [], o, _ => ⟨[], by simp, by simp, by simp [repAll], by simp, by simp⟩
  | e :: zs, o, h => by
    simp only [repRows] at h
    obtain ⟨⟨he, hc⟩, hr⟩ := h
    obtain ⟨us, hl1, hc1, hr1, h11⟩ := cells_list hc
    obtain ⟨vs, hl2, hc2, hr2, h12, h13⟩ := rows_list hr
    refine ⟨us ++ vs, by simp [hl1, hl2, he, Nat.add_mul]; omega, fun j v hv => ?_, by simpa using repAll_append hr1 hr2, fun v hv => ?_, fun x hx => ?_⟩
    · by_cases hj : j < us.length
      · rw [List.getElem?_append_left hj] at hv; exact hc1 j v hv
      · rw [List.getElem?_append_right (by omega)] at hv
        have := hc2 _ v hv
        rwa [show o + sz + (j - us.length) = o + j by omega] at this
    · rcases List.mem_append.1 hv with hv | hv
      · exact h11 v hv
      · exact h12 v hv
    · rcases List.mem_cons.1 hx with rfl | hx
      · exact he
      · exact h13 x hx

theorem rowsOf_length' (sz : Nat) : ∀ (n : Nat) (cs : List AV), (rowsOf n sz cs).length = n
  | 0, _ => rfl
  | n + 1, cs => by simp only [rowsOf, List.length_cons, rowsOf_length' sz n]
theorem rowsOf_flatten (sz : Nat) : ∀ (n : Nat) (cs : List AV), n * sz ≤ cs.length → (rowsOf n sz cs).flatten = cs.take (n * sz)
  | 0, _, _ => by simp [rowsOf]
  | n + 1, cs, h => by
    rw [Nat.add_mul, Nat.one_mul] at h
    simp only [rowsOf, List.flatten_cons]
    rw [rowsOf_flatten sz n _ (by simp; omega), Nat.add_mul, Nat.one_mul, Nat.add_comm (n * sz), List.take_add]
theorem rowsOf_mem (sz : Nat) : ∀ (n : Nat) (cs : List AV), n * sz ≤ cs.length → ∀ e ∈ rowsOf n sz cs, e.length = sz
  | 0, _, _, e, he => by simp [rowsOf] at he
  | n + 1, cs, h, e, he => by
    rw [Nat.add_mul, Nat.one_mul] at h
    simp only [rowsOf, List.mem_cons] at he
    rcases he with rfl | he
    · simp; omega
    · exact rowsOf_mem sz n _ (by simp; omega) e he
/-- What is appended. -/
theorem rowsIn_sound {sz : Nat} {x : AV} {v : Value} {ys : List (List AV)} (hI : Inv gl w M σ) (h : rowsIn σ sz x = some ys) (hr : rep w M x v) :
    ∃ news : List Value, (∀ w2 : World, (Builtin.lenOf v).run P w2 = .ok ys.length w2) ∧ (∀ w2 : World, w2.heap = w.heap → (Builtin.firstCells sz ys.length v).run P w2 = .ok news.toArray w2) ∧
      news.length = ys.length * sz ∧ repAll w M ys.flatten news ∧ (∀ u ∈ news, u.oneCell' = true) ∧ ∀ e ∈ ys, e.length = sz := by
  have hblock : ∀ (b o : Nat) (xs : List (List AV)) len cap, repRows w M b o sz xs → len = xs.length → ∃ news : List Value, (∀ w2 : World, w2.heap = w.heap → (Builtin.firstCells sz xs.length (.slice (some ⟨b, o, none⟩) len cap)).run P w2 = .ok news.toArray w2) ∧
      news.length = xs.length * sz ∧ repAll w M xs.flatten news ∧ (∀ u ∈ news, u.oneCell' = true) ∧ ∀ e ∈ xs, e.length = sz := by
    intro b o xs len cap hr hlen
    obtain ⟨vs, h1, h2, h3, h4, h5⟩ := rows_list hr
    refine ⟨vs, fun w2 hw => run_firstCells_some w2 sz xs.length ⟨b, o, none⟩ len cap vs h1 fun j u hu => ?_, h1, h3, h4, h5⟩
    rw [addr_add]
    simpa [World.cell?, hw] using h2 j u hu
  unfold rowsIn at h
  split at h
  · rename_i s xs
    by_cases hs : s = sz
    · subst hs
      simp only [BEq.rfl, cond_true, Option.some.injEq] at h
      subst h
      simp only [rep] at hr
      obtain ⟨A, cap, rfl, _, hr⟩ := hr
      rcases hr with rfl | ⟨b, o, rfl, hr⟩
      · exact ⟨[], fun w2 => by simp [Builtin.lenOf], fun w2 _ => by cases A <;> simp [Builtin.firstCells, loadCells, loadCellsFrom], by simp, by simp [repAll], by simp, by simp⟩
      · obtain ⟨news, h1, h2⟩ := hblock b o xs xs.length cap hr rfl
        exact ⟨news, fun w2 => by simp [Builtin.lenOf], h1, h2⟩
    · have : (s == sz) = false := by simpa using hs
      simp [this] at h
  · rename_i b s xs
    by_cases hs : s = sz
    · subst hs
      simp only [BEq.rfl, cond_true, Option.some.injEq] at h
      subst h
      simp only [rep] at hr
      obtain ⟨cap, e, n, rfl, _, hr, _⟩ := hr
      obtain ⟨news, h1, h2⟩ := hblock b 0 xs xs.length cap hr rfl
      exact ⟨news, fun w2 => by simp [Builtin.lenOf], h1, h2⟩
    · have : (s == sz) = false := by simpa using hs
      simp [this] at h
  · simp only [Option.some.injEq] at h
    subst h
    simp only [rep] at hr
    obtain ⟨A, rfl⟩ := hr
    exact ⟨[], fun w2 => by simp [Builtin.lenOf], fun w2 _ => by simp [Builtin.firstCells, loadCells, loadCellsFrom], by simp, by simp [repAll], by simp, by simp⟩
  · rename_i n c
    by_cases hn : n = 0
    · subst hn
      simp only [BEq.rfl, cond_true, Option.some.injEq] at h
      subst h
      simp only [rep] at hr
      subst hr
      exact ⟨[], fun w2 => by simp [Builtin.lenOf], fun w2 _ => by simp [Builtin.firstCells], by simp, by simp [repAll], by simp, by simp⟩
    · have : (n == 0) = false := by simpa using hn
      simp [this] at h
  · rename_i b o n c
    split at h
    · rename_i cs hl
      cases hfit : decide (o + n * sz ≤ cs.length) with
      | false => rw [hfit] at h; simp at h
      | true =>
        rw [hfit] at h
        simp only [cond_true, Option.some.injEq] at h
        subst h
        simp only [decide_eq_true_eq] at hfit
        simp only [rep] at hr
        subst hr
        obtain ⟨cur, e', hb, _, hrc, h1c⟩ := hI.objs _ (look_mem hl)
        simp only at hb
        have hlen : cs.length = cur.size := by rw [repAll_length hrc]; simp
        have hrl : (rowsOf n sz (cs.drop o)).length = n := rowsOf_length' sz n _
        have hfl := rowsOf_flatten sz n (cs.drop o) (by simp; omega)
        refine ⟨((cur.toList.drop o).take (n * sz)), fun w2 => by simp [Builtin.lenOf, hrl], fun w2 hw => ?_, by simp [hrl]; omega, ?_, fun u hu => h1c u (List.mem_of_mem_drop (List.mem_of_mem_take hu)), rowsOf_mem sz n _ (by simp; omega)⟩
        · rw [hrl]
          refine run_firstCells_some w2 sz n ⟨b, o, none⟩ n c _ (by simp; omega) fun j u hu => ?_
          have hj : j < n * sz := by
            have := (List.getElem?_eq_some_iff.1 hu).1
            simp at this; omega
          rw [List.getElem?_take, if_pos hj, List.getElem?_drop] at hu
          have hu3 : cur[o + j]? = some u := by simpa using hu
          rw [addr_add]
          simp only [World.cell?, hw, hb]
          simpa using hu3
        · rw [hfl]
          refine repAll_of_get (by simp; omega) fun i a v ha hv => ?_
          have hi : i < n * sz := by
            have := (List.getElem?_eq_some_iff.1 ha).1
            simp at this; omega
          rw [List.getElem?_take, if_pos hi, List.getElem?_drop] at ha hv
          obtain ⟨v', hv', hr'⟩ := repAll_get hrc _ _ ha
          rw [hv] at hv'; cases hv'
          exact hr'
    · cases h
  · rename_i l
    by_cases hs : sz = 1
    · subst hs
      simp only [BEq.rfl, cond_true, Option.some.injEq] at h
      subst h
      simp only [rep] at hr
      subst hr
      refine ⟨l.map fun c => .int .u8 c.toNat, fun w2 => by simp [Builtin.lenOf, size_mk], fun w2 _ => ?_, by simp, ?_, by simp [Value.oneCell'], by simp⟩
      · simp only [Builtin.firstCells, Sem.run_pure]
        congr 1
        apply Array.ext'
        simp
      · have : (List.map (fun c : UInt8 => [AV.byte c.toNat]) l).flatten = l.map fun c => AV.byte c.toNat := by
          induction l with
          | nil => rfl
          | cons c l ih => simp [ih]
        rw [this]
        refine repAll_of_get (by simp) fun i a v ha hv => ?_
        simp only [List.getElem?_map] at ha hv
        cases hx : l[i]? with
        | none => rw [hx] at ha; simp at ha
        | some c =>
          rw [hx] at ha hv
          simp at ha hv
          subst ha hv
          simp [rep]
    · have : (sz == 1) = false := by simpa using hs
      simp [this] at h
  · cases h
theorem zeros_one {z : Array Value} (h : ∀ v ∈ z.toList, v.oneCell' = true) (h0 : 0 < z.size) (n : Nat) : ∀ v ∈ (Builtin.zeroCells z n).toList, v.oneCell' = true := by
  intro v hv
  simp only [Builtin.zeroCells, Array.toList_map, List.mem_map] at hv
  obtain ⟨i, _, rfl⟩ := hv
  have : i % z.size < z.size := Nat.mod_lt _ h0
  rw [getElem!_pos z _ this]
  exact h _ (by simp)

theorem append_grow {t u ty e : TypeId} {i : TypeInfo} {z : Value} {du : TypeDesc} (ht : P.underlying t = some (.slice e)) (hu : P.underlying u = some du) (hdu : ∀ k, du ≠ .int k) (hi : P.info? e = some i) (hz : i.zero = some z)
    {base : Option Addr} {sLen sCap n : Nat} {x : Value} {olds news : List Value} (hlen : ∀ w2 : World, (Builtin.lenOf x).run P w2 = .ok n w2)
    (hold : ∀ w2 : World, w2.heap = w.heap → (Builtin.firstCells i.size sLen (.slice base sLen sCap)).run P w2 = .ok olds.toArray w2)
    (hnew : ∀ w2 : World, w2.heap = w.heap → (Builtin.firstCells i.size n x).run P w2 = .ok news.toArray w2)
    (hgt : sCap < sLen + n) (hb1 : sLen + n ≤ 70368744177664) (hb : (sLen + n) * i.bytes ≤ 70368744177664) :
    ∃ cap, sLen + n ≤ cap ∧ (Builtin.append_ #[t, u] ty #[.slice base sLen sCap, x]).run P w =
      .ok (.slice (some ⟨w.heap.size, 0, none⟩) (sLen + n) cap) (w.drew.alloc (.cells (olds.toArray ++ news.toArray ++ Builtin.zeroCells z.cells (cap - (sLen + n))) e)) := by
  have h1 : ¬ (sLen + n ≤ sCap) := by omega
  have h2 : ¬ (((sLen + n : Nat) : Int) > IntKind.i64.max) := by have e : IntKind.i64.max = 9223372036854775807 := by decide
                                                                 rw [e]; omega
  have h3 : ¬ (Builtin.nextslicecap (sLen + n) sCap * i.bytes > 2 ^ 48) := by
    have := growslice_fits (bytes := i.bytes) hgt (by omega)
    omega
  refine ⟨grownCap w (sLen + n) sCap e, grownCap_ge _ _ _ _, ?_⟩
  have hold' := hold w.drew rfl
  have hnew' := hnew w.drew rfl
  have h2' : ¬ (9223372036854775807 < ((sLen : Int) + (n : Int))) := by omega
  simp [Builtin.append_, run_und ht, run_und hu, run_size hi, run_info hi, hlen, h1, h2', h3, Question.forced, hold', hnew', zeroValue, hz, newRow, grownCap, -Array.append_assoc]
theorem append_room {t u ty e : TypeId} {i : TypeInfo} {du : TypeDesc} (ht : P.underlying t = some (.slice e)) (hu : P.underlying u = some du) (hdu : ∀ k, du ≠ .int k) (hi : P.info? e = some i)
    {b sLen sCap n : Nat} {x : Value} {news : List Value} {cur : Array Value} {e' : TypeId} (hlen : ∀ w2 : World, (Builtin.lenOf x).run P w2 = .ok n w2)
    (hnew : (Builtin.firstCells i.size n x).run P w = .ok news.toArray w) (hn : news.length = n * i.size) (h1 : ∀ v ∈ news, v.oneCell' = true)
    (hle : sLen + n ≤ sCap) (hh : w.heap[b]? = some (.cells cur e')) (hs : sCap * i.size ≤ cur.size) :
    (Builtin.append_ #[t, u] ty #[.slice (some ⟨b, 0, none⟩) sLen sCap, x]).run P w =
      .ok (.slice (some ⟨b, 0, none⟩) (sLen + n) sCap) (setBlk w b (.cells (cur.toList.take (sLen * i.size) ++ news ++ cur.toList.drop (sLen * i.size + news.length)).toArray e')) := by
  have hfit : sLen * i.size + news.length ≤ cur.size := by
    rw [hn, ← Nat.add_mul]
    exact Nat.le_trans (Nat.mul_le_mul_right _ hle) hs
  have hst := store_cells (P := P) (vs := news) (off := sLen * i.size) hh hfit h1
  simp [Builtin.append_, run_und ht, run_und hu, run_size hi, hlen, hle, hnew, addr_add, hst]
end
end Go.AX
end
