/- Rules of proof over abstract values, for any program. -/
import Derived.Test.YtgcglnaffdgpbaaGreatDoorRuleE
section
/- The rules by which the conditions are worked out; data of lists; slices that grow. -/
namespace Go.AX
open Go
/-- What simp is to leave alone until its turn comes. -/
class HK (α : Sort _) where
  k : α
def Hid {α : Sort _} [i : HK α] : α := i.k
theorem hid1 {α : Sort _} {β : Sort _} {F : α → β} {a : α} : ((@Hid _ (HK.mk (F)))) a = F a := (rfl)
theorem hid2 {α : Sort _} {β : Sort _} {γ : Sort _} {F : α → β → γ} {a : α} {b : β} : ((@Hid _ (HK.mk (F)))) a b = F a b := (rfl)
theorem hid3 {α : Sort _} {β : Sort _} {γ : Sort _} {δ : Sort _} {F : α → β → γ → δ} {a : α} {b : β} {c : γ} : ((@Hid _ (HK.mk (F)))) a b c = F a b c := (rfl)
theorem cnd_true {A B : Prop} : cnd true ((@Hid _ (HK.mk (A)))) ((@Hid _ (HK.mk (B)))) = A := by simp [cnd, Hid]
theorem cnd_false {A B : Prop} : cnd false ((@Hid _ (HK.mk (A)))) ((@Hid _ (HK.mk (B)))) = B := by simp [cnd, Hid]
theorem cnd_decide {c : Prop} [Decidable c] {A B : Prop} : cnd (decide c) ((@Hid _ (HK.mk (A)))) ((@Hid _ (HK.mk (B)))) = ((c → A) ∧ (¬ c → B)) := by simp [cnd, Hid]
theorem cnd_not {q : Bool} {A B : Prop} : cnd (!q) ((@Hid _ (HK.mk (A)))) ((@Hid _ (HK.mk (B)))) = cnd q ((@Hid _ (HK.mk (B)))) ((@Hid _ (HK.mk (A)))) := by cases q <;> simp [cnd, Hid]
theorem cnd_any {q : Bool} {A B : Prop} : cnd q ((@Hid _ (HK.mk (A)))) ((@Hid _ (HK.mk (B)))) = ((q = true → A) ∧ (q = false → B)) := (rfl)
def cndA (a : AV) (A B : Prop) : Prop := match a with | .raw (.bool q) => cnd q A B | _ => False
theorem cndA_eq {q : Bool} {A B : Prop} : cndA (.raw (.bool q)) ((@Hid _ (HK.mk (A)))) ((@Hid _ (HK.mk (B)))) = cnd q ((@Hid _ (HK.mk (A)))) ((@Hid _ (HK.mk (B)))) := (rfl)
def grdA (a : AV) (p : Bool) (E S U : Prop) : Prop := match a with | .raw (.bool q) => grd p q E S | .tup [] => U | _ => False
theorem grdA_u {p : Bool} {E S U : Prop} : grdA (.tup []) p ((@Hid _ (HK.mk (E)))) ((@Hid _ (HK.mk (S)))) ((@Hid _ (HK.mk (U)))) = U := (rfl)
theorem grdA_t {q : Bool} {E S U : Prop} : grdA (.raw (.bool q)) true ((@Hid _ (HK.mk (E)))) ((@Hid _ (HK.mk (S)))) ((@Hid _ (HK.mk (U)))) = cnd q ((@Hid _ (HK.mk (E)))) ((@Hid _ (HK.mk (S)))) := (rfl)
theorem grdA_f {q : Bool} {E S U : Prop} : grdA (.raw (.bool q)) false ((@Hid _ (HK.mk (E)))) ((@Hid _ (HK.mk (S)))) ((@Hid _ (HK.mk (U)))) = cnd q ((@Hid _ (HK.mk (S)))) ((@Hid _ (HK.mk (E)))) := by cases q <;> simp [grdA, grd, cnd, Hid]
def withO {α : Type} (o : Option α) (F : α → Prop) : Prop := match o with | some x => F x | none => False
theorem withO_some {α : Type} {x : α} {F : α → Prop} : withO (some x) ((@Hid _ (HK.mk (F)))) = F x := (rfl)
theorem withO_map {α : Type} {l : List α} {f : α → List AV} {i : Nat} {F : List AV → Prop} : withO ((l.map f)[i]?) ((@Hid _ (HK.mk (F)))) = withO (l[i]?) ((@Hid _ (HK.mk (fun y => F (f y))))) := by
  rw [List.getElem?_map]; cases l[i]? <;> rfl
def withOwn (o : Option AObj) (F : List AV → Prop) : Prop := match o with | some (.own cs) => F cs | _ => False
theorem withOwn_own {cs : List AV} {F : List AV → Prop} : withOwn (some (.own cs)) ((@Hid _ (HK.mk (F)))) = F cs := (rfl)
def withRd (o : Option AObj) (F : List AV → Prop) : Prop := match o with | some (.own cs) => F cs | some (.fixd cs) => F cs | _ => False
theorem withRd_own {cs : List AV} {F : List AV → Prop} : withRd (some (.own cs)) ((@Hid _ (HK.mk (F)))) = F cs := (rfl)
theorem withRd_fixd {cs : List AV} {F : List AV → Prop} : withRd (some (.fixd cs)) ((@Hid _ (HK.mk (F)))) = F cs := (rfl)
def withClos (a : AV) (F : FuncId → List AV → List AV → Prop) : Prop := match a with | .clos (.func g) x y => F g x y | _ => False
theorem withClos_eq {g : FuncId} {x y : List AV} {F : FuncId → List AV → List AV → Prop} : withClos (.clos (.func g) x y) ((@Hid _ (HK.mk (F)))) = F g x y := (rfl)
def withTup (a : AV) (F : List AV → Prop) : Prop := match a with | .tup vs => F vs | _ => False
theorem withTup_eq {x : List AV} {F : List AV → Prop} : withTup (.tup x) ((@Hid _ (HK.mk (F)))) = F x := (rfl)
def withInt (a : AV) (F : IntKind → Int → Prop) : Prop := match a with | .raw (.int k n) => F k n | _ => False
theorem withInt_eq {k : IntKind} {n : Int} {F : IntKind → Int → Prop} : withInt (.raw (.int k n)) ((@Hid _ (HK.mk (F)))) = F k n := (rfl)

section
variable {P : Program} {gl : Globs} {cf : Cfg} {ρ : Env} {σ : Store}
/-! ### Code -/
variable {K : Exit → Env → Store → Prop}
def DrawK (P : Program) (gl : Globs) (cf : Cfg) (id : Nat) (ops : Array Oper) (ρ : Env) (σ : Store) (K : Exit → Env → Store → Prop) : Prop := DrawWp P gl cf id ops ρ σ fun e ρ σ => K e (keep cf.ks ρ) σ
theorem cw_skip : cWp P gl cf .skip ρ σ K = K .normal ρ σ := by simp only [cWp]
theorem cw_region {id : Nat} {ops : Array Oper} : cWp P gl cf (.region id ops false) ρ σ K = opsWp P gl cf ops.toList ops.toList ρ σ ((@Hid _ (HK.mk (fun ρ σ => K .normal (keep cf.ks ρ) σ)))) := by simp only [cWp, Hid]
theorem cw_draw {id : Nat} {ops : Array Oper} : cWp P gl cf (.region id ops true) ρ σ K = DrawK P gl cf id ops ρ σ ((@Hid _ (HK.mk (K)))) := by simp only [cWp, Hid, DrawK]
theorem cw_seq {a b : Code} : cWp P gl cf (.seq a b) ρ σ K = cWp P gl cf a ρ σ ((@Hid _ (HK.mk (fun e ρ σ => match e with | .normal => cWp P gl cf b ρ σ K | e => K e ρ σ)))) := by simp only [cWp, Hid]; rfl
theorem cw_cond {c : Operand} {a b : Code} : cWp P gl cf (.cond c a b) ρ σ K = cndA (ev gl ρ c) ((@Hid _ (HK.mk (cWp P gl cf a ρ σ K)))) ((@Hid _ (HK.mk (cWp P gl cf b ρ σ K)))) := by simp only [cWp, Hid, cndA]; rfl
theorem cw_block {id : Nat} {c : Code} : cWp P gl cf (.block id c) ρ σ K = cWp P gl cf c ρ σ ((@Hid _ (HK.mk (fun e ρ σ => match e with | .exit n => bif n == id then K .normal ρ σ else K (.exit n) ρ σ | e => K e ρ σ)))) := by simp only [cWp, Hid]; rfl
theorem cw_loop {c : Code} : cWp P gl cf (.loop c) ρ σ K = LoopWp P gl cf c ρ σ ((@Hid _ (HK.mk (K)))) := by simp only [cWp, Hid]
theorem cw_exit {id : Nat} : cWp P gl cf (.exit id) ρ σ K = K (.exit id) ρ σ := by simp only [cWp]
theorem cw_ret : cWp P gl cf .ret ρ σ K = K .ret ρ σ := by simp only [cWp]
class HI where
  i : Nat → Env → Store → Prop
@[reducible] def Holds [h : HI] (m : Nat) (ρ : Env) (σ : Store) : Prop := h.i m ρ σ
theorem LoopWp.by {c : Code} (I : Nat → Env → Store → Prop) (n : Nat) (h0 : I n ρ σ) (step : ∀ n ρ σ, I n ρ σ → cWp P gl cf c ρ σ ((@Hid _ (HK.mk (fun e ρ' σ' => match e with | .normal => ∃ m, m < n ∧ @Holds ⟨I⟩ m ρ' σ' | e => K e ρ' σ'))))) : LoopWp P gl cf c ρ σ K := LoopWp.intro I n h0 step
theorem LoopWp.byR {c : Code} (I : Nat → Env → Store → Prop) (n : Nat) (h0 : ∃ τ ρ2, Recast gl σ ρ τ ρ2 ∧ I n ρ2 τ) (step : ∀ n ρ σ, I n ρ σ → cWp P gl cf c ρ σ ((@Hid _ (HK.mk (fun e ρ' σ' => match e with | .normal => ∃ τ ρ2, Recast gl σ' ρ' τ ρ2 ∧ ∃ m, m < n ∧ @Holds ⟨I⟩ m ρ2 τ | e => K e ρ' σ'))))) : LoopWp P gl cf c ρ σ K := LoopWp.introR I n h0 step
theorem LoopWp.byT {c : Code} (I : Nat → Env → Store → Prop) (n : Nat) (h0 : ∃ τ, Turn gl σ τ ∧ I n ρ τ) (step : ∀ n ρ σ, I n ρ σ → cWp P gl cf c ρ σ ((@Hid _ (HK.mk (fun e ρ' σ' => match e with | .normal => ∃ τ, Turn gl σ' τ ∧ ∃ m, m < n ∧ @Holds ⟨I⟩ m ρ' τ | e => K e ρ' σ'))))) : LoopWp P gl cf c ρ σ K := LoopWp.introT I n h0 step
theorem DrawK.text {id : Nat} {ops : Array Oper} (hm : P.follows .mixedOrders = true) (hok : ordOk cf ops.toList (List.range ops.toList.length) = true) (h : opsD P gl cf ops.toList ops.toList ρ σ ((@Hid _ (HK.mk (fun ρ σ => K .normal (keep cf.ks ρ) σ))))) : DrawK P gl cf id ops ρ σ K := DrawWp.text hm hok h
theorem DrawK.by {id : Nat} {ops : Array Oper} (hm : P.follows .mixedOrders = true) (l : List Nat) (os : List Oper) (hos : l.map (ops.toList[·]?) = os.map some) (hok : ordOk cf ops.toList l = true) (h : opsD P gl cf ops.toList os ρ σ ((@Hid _ (HK.mk (fun ρ σ => K .normal (keep cf.ks ρ) σ))))) : DrawK P gl cf id ops ρ σ K := DrawWp.by hm l os hos hok h
def getO : List Oper → Nat → Option Oper
  | [], _ => none
  | o :: _, 0 => some o
  | _ :: r, n + 1 => getO r n
def pickC : Option Oper → List Oper → List Oper
  | some o, r => o :: r
  | none, r => r
def pickL : List Nat → List Oper → List Oper
  | [], _ => []
  | i :: l, all => pickC (getO all i) (pickL l all)
theorem getO_eq : ∀ (all : List Oper) (i : Nat), getO all i = all[i]?
  | [], _ => by simp [getO]
  | o :: _, 0 => rfl
  | _ :: r, n + 1 => by simp [getO, getO_eq r n]
theorem pickL_spec {all : List Oper} : ∀ {l : List Nat}, (∀ i ∈ l, i < all.length) → l.map (all[·]?) = (pickL l all).map some
  | [], _ => rfl
  | i :: l, h => by
    have h1 := h i (by simp)
    have h2 := pickL_spec (all := all) (l := l) fun j hj => h j (by simp [hj])
    simp only [List.map_cons, h2, pickL, getO_eq, List.getElem?_eq_getElem h1, pickC]
theorem DrawK.ord {id : Nat} {ops : Array Oper} (hm : P.follows .mixedOrders = true) (l : List Nat) (hok : ordOk cf ops.toList l = true) (h : opsD P gl cf ops.toList (pickL l ops.toList) ρ σ ((@Hid _ (HK.mk (fun ρ σ => K .normal (keep cf.ks ρ) σ))))) : DrawK P gl cf id ops ρ σ K :=
  DrawWp.by hm l _ (pickL_spec (by
    have := hok
    unfold ordOk at this
    simp only [Bool.and_eq_true, List.all_eq_true, decide_eq_true_eq] at this
    exact this.1.1.1.2)) hok h
variable {K : Env → Store → Prop} {all r : List Oper} {dst : Option Tmp} {op : Op} {ty : TypeId} {pos : String} {aft : Array Edge} {g : Nat} {p : Bool}
theorem ow_nil : opsWp P gl cf all [] ρ σ K = K ρ σ := by simp only [opsWp]
theorem ow_cons : opsWp P gl cf all (⟨dst, op, ty, pos, aft, none⟩ :: r) ρ σ K = (dstOk cf dst = true ∧ opWp P gl (ownAt cf dst) op ρ σ ((@Hid _ (HK.mk (fun v σ => opsWp P gl cf all r (put ρ dst v) σ K))))) := by simp only [opsWp, Hid]
def gTmp (all : List Oper) (g : Nat) : Option Tmp := (all[g]?).bind (·.dst)
theorem gTmp_zero {o : Oper} {r : List Oper} : gTmp (o :: r) 0 = o.dst := (rfl)
theorem gTmp_succ {o : Oper} {r : List Oper} {n : Nat} : gTmp (o :: r) (n + 1) = gTmp r n := (rfl)
theorem ow_guard : opsWp P gl cf all (⟨dst, op, ty, pos, aft, some (g, p)⟩ :: r) ρ σ K = (dstOk cf dst = true ∧ withO (gTmp all g) ((@Hid _ (HK.mk (fun t => grdA (get ρ t) p
    ((@Hid _ (HK.mk (opWp P gl (ownAt cf dst) op ((t, .bool p) :: ρ) σ ((@Hid _ (HK.mk (fun v σ => opsWp P gl cf all r (put ((t, .bool p) :: ρ) dst v) σ K))))))))
    ((@Hid _ (HK.mk (opsWp P gl cf all r (put ((t, .bool !p) :: ρ) dst (.tup [])) σ K))))
    ((@Hid _ (HK.mk (opsWp P gl cf all r (put ρ dst (.tup [])) σ K))))))))) := by
  simp only [opsWp, Hid, withO, gTmp]
  congr 1
  cases (all[g]?).bind (·.dst) <;> rfl
theorem od_nil : opsD P gl cf all [] ρ σ K = K ρ σ := by simp only [opsD]
theorem od_cons : opsD P gl cf all (⟨dst, op, ty, pos, aft, none⟩ :: r) ρ σ K = (dstOk cf dst = true ∧ opD P gl (ownAt cf dst) (cstAt cf op) op ρ σ ((@Hid _ (HK.mk (fun v σ => opsD P gl cf all r (put ρ dst v) σ K))))) := by simp only [opsD, Hid]
theorem od_guard : opsD P gl cf all (⟨dst, op, ty, pos, aft, some (g, p)⟩ :: r) ρ σ K = (dstOk cf dst = true ∧ withO (gTmp all g) ((@Hid _ (HK.mk (fun t => grdA (get ρ t) p
    ((@Hid _ (HK.mk (opD P gl (ownAt cf dst) (cstAt cf op) op ((t, .bool p) :: ρ) σ ((@Hid _ (HK.mk (fun v σ => opsD P gl cf all r (put ((t, .bool p) :: ρ) dst v) σ K))))))))
    ((@Hid _ (HK.mk (opsD P gl cf all r (put ((t, .bool !p) :: ρ) dst (.tup [])) σ K))))
    ((@Hid _ (HK.mk (opsD P gl cf all r (put ρ dst (.tup [])) σ K))))))))) := by
  simp only [opsD, Hid, withO, gTmp]
  congr 1
  cases (all[g]?).bind (·.dst) <;> rfl
/-! ### Operations -/
variable {K : AV → Store → Prop} {own cst : Bool} {t s d : TypeId} {x y z : Operand}
theorem o_move : opWp P gl own (.move x) ρ σ K = K (ev gl ρ x) σ := (rfl)
theorem o_assign : opWp P gl own (.assign x) ρ σ K = K (ev gl ρ x) σ := (rfl)
theorem o_pick : opWp P gl own (.pick x y z) ρ σ K = cndA (ev gl ρ x) ((@Hid _ (HK.mk (K (ev gl ρ y) σ)))) ((@Hid _ (HK.mk (K (ev gl ρ z) σ)))) := by
  unfold opWp cndA; simp only [Hid]
  split <;> simp_all
theorem o_alloc : opWp P gl own (.alloc t) ρ σ K = withO (TI P t) ((@Hid _ (HK.mk (fun ti => ∀ b, fresh b σ → K (.ptr b 0) ((b, .own (ti.zero.map ofCell)) :: σ))))) := by
  unfold opWp withO; simp only [Hid]
  cases TI P t <;> rfl
theorem o_box : opWp P gl own (.box t x) ρ σ K = withO (cellsOf (ev gl ρ x)) ((@Hid _ (HK.mk (fun cs => cnd own ((@Hid _ (HK.mk (∀ b, fresh b σ → K (.ptr b 0) ((b, .own cs) :: σ))))) ((@Hid _ (HK.mk (K (.cptr cs) σ)))))))) := by
  unfold opWp withO; simp only [Hid]; split <;> simp_all [cnd]; cases own <;> simp
def buildR (P : Program) (gl : Globs) (ti : TyI) (parts : List (Nat × Operand)) (ρ : Env) (K : AV → Prop) : Prop := match ti.ty with
  | .strct fs => withO (layA (fieldPl P fs) (parts.map fun (i, x) => (i, ev gl ρ x)) (ti.zero.map ofCell)) fun cs => allTI P fs ∧ K (.agg cs)
  | .arr _ e => withO (TI P e) fun te => withO (layA (fun i => some (i * te.sz, te.sz)) (parts.map fun (i, x) => (i, ev gl ρ x)) (ti.zero.map ofCell)) fun cs => K (.agg cs)
  | _ => False
theorem buildR_s {fs : List (Nat × TypeId)} {sz by_ : Nat} {zero : List Value} {parts : List (Nat × Operand)} {K : AV → Prop} : buildR P gl ⟨.strct fs, sz, by_, zero⟩ parts ρ K = withO (layA (fieldPl P fs) (parts.map fun (i, x) => (i, ev gl ρ x)) (zero.map ofCell)) ((@Hid _ (HK.mk (fun cs => allTI P fs ∧ K (.agg cs))))) := (rfl)
theorem buildR_a {n : Nat} {e : TypeId} {sz by_ : Nat} {zero : List Value} {parts : List (Nat × Operand)} {K : AV → Prop} : buildR P gl ⟨.arr n e, sz, by_, zero⟩ parts ρ K = withO (TI P e) ((@Hid _ (HK.mk (fun te => withO (layA (fun i => some (i * te.sz, te.sz)) (parts.map fun (i, x) => (i, ev gl ρ x)) (zero.map ofCell)) ((@Hid _ (HK.mk (fun cs => K (.agg cs))))))))) := (rfl)
theorem o_build {parts : Array (Nat × Operand)} : opWp P gl own (.build t parts) ρ σ K = withO (TI P t) ((@Hid _ (HK.mk (fun ti => buildR P gl ti parts.toList ρ ((@Hid _ (HK.mk (fun v => K v σ)))))))) := by
  unfold opWp withO; simp only [Hid, buildR]
  split <;> simp_all
  split <;> simp_all [withO]
  · split <;> simp_all
  · split <;> simp_all
    split <;> simp_all
def elTI (P : Program) (o : Option TyI) (F : TyI → Prop) : Prop := withO o fun ti => match ti.ty with | .slice e => withO (TI P e) F | _ => False
theorem elTI_eq {e : TypeId} {sz by_ : Nat} {zero : List Value} {F : TyI → Prop} : elTI P (some ⟨.slice e, sz, by_, zero⟩) ((@Hid _ (HK.mk (F)))) = withO (TI P e) ((@Hid _ (HK.mk (F)))) := (rfl)
theorem o_buildSlice {n : Nat} {parts : Array (Nat × Operand)} : opWp P gl own (.buildSlice t n parts) ρ σ K = elTI P (TI P t) ((@Hid _ (HK.mk (fun te => (0 < te.sz ∧ n * te.sz ≤ 16777216) ∧ withO (layA (fun i => some (i * te.sz, te.sz)) (parts.toList.map fun (i, x) => (i, ev gl ρ x)) (reps n (te.zero.map ofCell)))
    ((@Hid _ (HK.mk (fun cs => cnd own ((@Hid _ (HK.mk (∀ b, fresh b σ → K (.vec b te.sz (rowsOf n te.sz cs)) ((b, .tail (n * te.sz)) :: σ))))) ((@Hid _ (HK.mk (cnd (n == 0) ((@Hid _ (HK.mk (K .mt σ)))) ((@Hid _ (HK.mk (K (.list te.sz (rowsOf n te.sz cs)) σ)))))))))))))))) := by
  unfold opWp elTI withO
  simp only [Hid]
  cases TI P t with
  | none => rfl
  | some ti =>
    obtain ⟨ty1, _, _, _⟩ := ti
    cases ty1 <;> try rfl
    rename_i e
    simp only
    cases TI P e with
    | none => rfl
    | some te =>
      simp only
      congr 1
      cases layA (fun i => some (i * te.sz, te.sz)) (parts.toList.map fun (i, x) => (i, ev gl ρ x)) (reps n (te.zero.map ofCell)) with
      | none => rfl
      | some cs => cases own <;> cases hn : (n == 0) <;> simp [cnd]
theorem o_load : opWp P gl own (.load t x) ρ σ K = withO (TI P t) ((@Hid _ (HK.mk (fun ti => loadWp ti σ (ev gl ρ x) K)))) := by
  unfold opWp withO; simp only [Hid]
  cases TI P t <;> rfl
theorem o_store : opWp P gl own (.store t x y) ρ σ K = withO (TI P t) ((@Hid _ (HK.mk (fun ti => storeWp ti σ (ev gl ρ x) (ev gl ρ y) K)))) := by
  unfold opWp withO; simp only [Hid]
  cases TI P t <;> rfl
def nilC (a : AV) (K : AV → Prop) : Prop := match a with
  | .raw (.pointer (some a)) => K (.raw (.pointer (some a)))
  | .cptr cs => K (.cptr cs)
  | .clos (.func f) fs cs => K (.clos (.func f) fs cs)
  | _ => False
theorem nilC_p {a : Addr} {K : AV → Prop} : nilC (.raw (.pointer (some a))) K = K (.raw (.pointer (some a))) := (rfl)
theorem nilC_c {a : List AV} {K : AV → Prop} : nilC (.cptr a) K = K (.cptr a) := (rfl)
theorem nilC_f {f : FuncId} {x z : List AV} {K : AV → Prop} : nilC (.clos (.func f) x z) K = K (.clos (.func f) x z) := (rfl)
theorem o_nilCheck : opWp P gl own (.nilCheck x) ρ σ K = nilC (ev gl ρ x) ((@Hid _ (HK.mk (fun v => K v σ)))) := by
  unfold opWp nilC; simp only [Hid]
  split <;> simp_all
def binR (ty : Ty) (o : BinOp) (a b : AV) (K : AV → Prop) : Prop := bif isNilC b then nilWp ty o a b K else binWp ty o a b K
theorem binR_eq {ty : Ty} {o : BinOp} {a b : AV} {K : AV → Prop} : binR ty o a b K = cnd (isNilC b) ((@Hid _ (HK.mk (nilWp ty o a b K)))) ((@Hid _ (HK.mk (binWp ty o a b K)))) := by unfold binR; cases isNilC b <;> simp [cnd, Hid]
theorem o_binOp {o : BinOp} {yt : TypeId} : opWp P gl own (.binOp o t x y yt) ρ σ K = withO (TI P t) ((@Hid _ (HK.mk (fun ti => binR ti.ty o (ev gl ρ x) (ev gl ρ y) ((@Hid _ (HK.mk (fun r => K r σ)))))))) := by
  unfold opWp withO binR; simp only [Hid]
  cases TI P t <;> rfl
theorem o_unOp {o : UnOp} : opWp P gl own (.unOp o t x) ρ σ K = unWp o (ev gl ρ x) ((@Hid _ (HK.mk (fun r => K r σ)))) := (rfl)
def convR (P : Program) (s d : Ty) (σ : Store) (a : AV) (K : AV → Prop) : Prop := match a with
  | .raw (.slice (some ⟨b, o, none⟩) n _) => convOwn P s d σ b o n K
  | a => convWp P s d a K
theorem o_convert : opWp P gl own (.convert s d x) ρ σ K = withO (TI P s) ((@Hid _ (HK.mk (fun si => withO (TI P d) ((@Hid _ (HK.mk (fun di => convR P si.ty di.ty σ (ev gl ρ x) ((@Hid _ (HK.mk (fun r => K r σ)))))))))))) := by
  unfold opWp withO; simp only [Hid]
  cases TI P s <;> cases TI P d <;> rfl
theorem o_makeFunc {fn : Fn} {a b : Array Operand} : opWp P gl own (.makeFunc fn a b) ρ σ K = K (.clos fn (a.toList.map (ev gl ρ)) (b.toList.map (ev gl ρ))) σ := (rfl)
def mkSl (own : Bool) (te : TyI) (k l : IntKind) (n m : Int) (σ : Store) (K : AV → Store → Prop) : Prop := match k, l with
  | .i64, .i64 => (0 < te.sz ∧ 0 ≤ n ∧ n ≤ m ∧ m * te.by_ ≤ 140737488355328 ∧ m ≤ 140737488355328) ∧
      (bif own then ∀ b, fresh b σ → K (.msl b 0 n.toNat m.toNat) ((b, .own (reps m.toNat (te.zero.map ofCell))) :: σ) else n = m ∧ K (.list te.sz (List.replicate n.toNat (te.zero.map ofCell))) σ)
  | _, _ => False
theorem mkSl_eq {te : TyI} {n m : Int} {K : AV → Store → Prop} : mkSl own te .i64 .i64 n m σ K = ((0 < te.sz ∧ 0 ≤ n ∧ n ≤ m ∧ m * te.by_ ≤ 140737488355328 ∧ m ≤ 140737488355328) ∧
      cnd own ((@Hid _ (HK.mk (∀ b, fresh b σ → K (.msl b 0 n.toNat m.toNat) ((b, .own (reps m.toNat (te.zero.map ofCell))) :: σ))))) ((@Hid _ (HK.mk (n = m ∧ K (.list te.sz (List.replicate n.toNat (te.zero.map ofCell))) σ))))) := by
  unfold mkSl; cases own <;> simp [cnd, Hid]
theorem o_makeSlice : opWp P gl own (.makeSlice t x y) ρ σ K = elTI P (TI P t) ((@Hid _ (HK.mk (fun te => withInt (ev gl ρ x) ((@Hid _ (HK.mk (fun k n => withInt (ev gl ρ y) ((@Hid _ (HK.mk (fun l m => mkSl own te k l n m σ K)))))))))))) := by
  unfold opWp elTI withO
  simp only [Hid]
  cases TI P t with
  | none => rfl
  | some ti =>
    obtain ⟨ty1, _, _, _⟩ := ti
    cases ty1 <;> try rfl
    rename_i e
    simp only
    generalize ev gl ρ x = a
    generalize ev gl ρ y = b
    cases TI P e with
    | none => rfl
    | some te =>
      cases a <;> try rfl
      rename_i u
      cases u <;> try rfl
      rename_i k n
      cases b <;> first | rfl | (cases k <;> rfl) | skip
      rename_i v
      cases v <;> first | rfl | (cases k <;> rfl) | skip
      rename_i l m
      cases k <;> cases l <;> rfl
theorem o_fieldAddr {f : Nat} : opWp P gl own (.fieldAddr t x f) ρ σ K = withO (TI P t) ((@Hid _ (HK.mk (fun ti => fieldWp P ti (ev gl ρ x) f ((@Hid _ (HK.mk (fun r => K r σ)))))))) := by
  unfold opWp withO; simp only [Hid]
  cases TI P t <;> rfl
theorem o_indexAddr : opWp P gl own (.indexAddr t x y) ρ σ K = withO (TI P t) ((@Hid _ (HK.mk (fun ti => indexWp P ti (ev gl ρ x) (ev gl ρ y) ((@Hid _ (HK.mk (fun r => K r σ)))))))) := by
  unfold opWp withO; simp only [Hid]
  cases TI P t <;> rfl
theorem o_index : opWp P gl own (.index t x y) ρ σ K = withO (TI P t) ((@Hid _ (HK.mk (fun ti => elemWp P ti (ev gl ρ x) (ev gl ρ y) ((@Hid _ (HK.mk (fun r => K r σ)))))))) := by
  unfold opWp withO; simp only [Hid]
  cases TI P t <;> rfl
theorem o_slice {lo hi mx : Option Operand} : opWp P gl own (.slice t x lo hi mx) ρ σ K = elTI P (TI P t) ((@Hid _ (HK.mk (fun te => sliceWp te.sz (ev gl ρ x) (lo.map (ev gl ρ)) (hi.map (ev gl ρ)) (mx.map (ev gl ρ)) ((@Hid _ (HK.mk (fun r => K r σ)))))))) := by
  unfold opWp elTI withO; simp only [Hid]
  cases TI P t with
  | none => rfl
  | some ti =>
    obtain ⟨ty1, _, _, _⟩ := ti
    cases ty1 <;> try rfl
    rename_i e
    simp only
    cases TI P e <;> rfl
theorem o_extract {i : Nat} : opWp P gl own (.extract x i) ρ σ K = withTup (ev gl ρ x) ((@Hid _ (HK.mk (fun vs => withO (vs[i]?) ((@Hid _ (HK.mk (fun v => K v σ)))))))) := by
  unfold opWp withTup withO; simp only [Hid]
  generalize ev gl ρ x = a
  cases a <;> try rfl
  rename_i vs
  simp only
  cases vs[i]? <;> rfl
theorem o_builtin {b : Builtin} {args : Array Operand} {ts : Array TypeId} : opWp P gl own (.call ⟨.builtin b, args, ts⟩) ρ σ K = builtinWp P own b ts (args.toList.map (ev gl ρ)) σ K := (rfl)
theorem o_call {f : Operand} {args : Array Operand} {ts : Array TypeId} : opWp P gl own (.call ⟨.value f, args, ts⟩) ρ σ K = withClos (ev gl ρ f) ((@Hid _ (HK.mk (fun g first caps => CallWp P gl g (first ++ args.toList.map (ev gl ρ) ++ caps) σ ((@Hid _ (HK.mk (K)))))))) := by
  unfold opWp withClos; simp only [Hid]
  split <;> simp_all
/-! the same in a drawn region -/
theorem d_builtin {b : Builtin} {args : Array Operand} {ts : Array TypeId} : opD P gl own cst (.call ⟨.builtin b, args, ts⟩) ρ σ K = builtinWp P own b ts (args.toList.map (ev gl ρ)) σ K := (rfl)
theorem d_call {f : Operand} {args : Array Operand} {ts : Array TypeId} : opD P gl own cst (.call ⟨.value f, args, ts⟩) ρ σ K = withClos (ev gl ρ f) ((@Hid _ (HK.mk (fun g first caps => cnd own ((@Hid _ (HK.mk (cnd cst ((@Hid _ (HK.mk (CallWp P gl g (first ++ args.toList.map (ev gl ρ) ++ caps) σ ((@Hid _ (HK.mk (K)))))))) ((@Hid _ (HK.mk (∃ r, CallWp P gl g (first ++ args.toList.map (ev gl ρ) ++ caps) σ (fun x σ' => x = r ∧ σ' = σ) ∧ ((@Hid _ (HK.mk (K)))) r σ)))))))) ((@Hid _ (HK.mk (PureWp P gl g (first ++ args.toList.map (ev gl ρ) ++ caps) ((@Hid _ (HK.mk (fun r => K r σ)))))))))))) := by
  unfold opD withClos; simp only [Hid]
  cases ev gl ρ f <;> try rfl
  rename_i fn a b
  cases fn <;> try rfl
  cases own <;> cases cst <;> simp [cnd]
theorem d_binOp {o : BinOp} {yt : TypeId} : opD P gl own cst (.binOp o t x y yt) ρ σ K = withO (TI P t) ((@Hid _ (HK.mk (fun ti => cnd (isNilC (ev gl ρ y)) ((@Hid _ (HK.mk (False)))) ((@Hid _ (HK.mk (binWp ti.ty o (ev gl ρ x) (ev gl ρ y) ((@Hid _ (HK.mk (fun r => K r σ)))))))))))) := by
  unfold opD withO; simp only [Hid]
  cases TI P t <;> try rfl
  cases isNilC (ev gl ρ y) <;> simp [cnd]
def loadC (ti : TyI) (a : AV) (K : AV → Prop) : Prop := match a with
  | .cptr cs => (0 < ti.sz ∧ ti.sz ≤ cs.length) ∧ K (mkV ti.ty.agg (cs.take ti.sz))
  | _ => False
theorem loadC_eq {ti : TyI} {cs : List AV} {K : AV → Prop} : loadC ti (.cptr cs) K = ((0 < ti.sz ∧ ti.sz ≤ cs.length) ∧ K (mkV ti.ty.agg (cs.take ti.sz))) := (rfl)
theorem d_load : opD P gl own cst (.load t x) ρ σ K = withO (TI P t) ((@Hid _ (HK.mk (fun ti => cnd cst ((@Hid _ (HK.mk (loadC ti (ev gl ρ x) ((@Hid _ (HK.mk (fun v => K v σ)))))))) ((@Hid _ (HK.mk (loadWp ti σ (ev gl ρ x) K)))))))) := by
  unfold opD withO; simp only [Hid]
  cases TI P t <;> try rfl
  cases cst <;> simp only [cnd, loadC, cond_true, cond_false, true_implies, reduceCtorEq, false_implies, and_true, true_and, imp_self, forall_const, Bool.false_eq_true, Bool.true_eq_false]
  generalize ev gl ρ x = a
  cases a <;> rfl
theorem d_convert : opD P gl own cst (.convert s d x) ρ σ K = withO (TI P s) ((@Hid _ (HK.mk (fun si => withO (TI P d) ((@Hid _ (HK.mk (fun di => convWp P si.ty di.ty (ev gl ρ x) ((@Hid _ (HK.mk (fun r => K r σ)))))))))))) := by
  unfold opD withO; simp only [Hid]
  cases TI P s <;> cases TI P d <;> rfl
theorem d_move  : opD P gl own cst (.move x) ρ σ K = opWp P gl own (.move x) ρ σ K := (rfl)
theorem d_assign  : opD P gl own cst (.assign x) ρ σ K = opWp P gl own (.assign x) ρ σ K := (rfl)
theorem d_pick  : opD P gl own cst (.pick x y z) ρ σ K = opWp P gl own (.pick x y z) ρ σ K := (rfl)
theorem d_alloc  : opD P gl own cst (.alloc t) ρ σ K = opWp P gl own (.alloc t) ρ σ K := (rfl)
theorem d_box  : opD P gl own cst (.box t x) ρ σ K = opWp P gl own (.box t x) ρ σ K := (rfl)
theorem d_store  : opD P gl own cst (.store t x y) ρ σ K = opWp P gl own (.store t x y) ρ σ K := (rfl)
theorem d_nilCheck  : opD P gl own cst (.nilCheck x) ρ σ K = opWp P gl own (.nilCheck x) ρ σ K := (rfl)
theorem d_fieldAddr {f : Nat} : opD P gl own cst (.fieldAddr t x f) ρ σ K = opWp P gl own (.fieldAddr t x f) ρ σ K := (rfl)
theorem d_indexAddr  : opD P gl own cst (.indexAddr t x y) ρ σ K = opWp P gl own (.indexAddr t x y) ρ σ K := (rfl)
theorem d_index  : opD P gl own cst (.index t x y) ρ σ K = opWp P gl own (.index t x y) ρ σ K := (rfl)
theorem d_extract {i : Nat} : opD P gl own cst (.extract x i) ρ σ K = opWp P gl own (.extract x i) ρ σ K := (rfl)
theorem d_makeSlice  : opD P gl own cst (.makeSlice t x y) ρ σ K = opWp P gl own (.makeSlice t x y) ρ σ K := (rfl)
theorem d_build {parts : Array (Nat × Operand)} : opD P gl own cst (.build t parts) ρ σ K = opWp P gl own (.build t parts) ρ σ K := (rfl)
theorem d_buildSlice {n : Nat} {parts : Array (Nat × Operand)} : opD P gl own cst (.buildSlice t n parts) ρ σ K = opWp P gl own (.buildSlice t n parts) ρ σ K := (rfl)
theorem d_unOp {o : UnOp} : opD P gl own cst (.unOp o t x) ρ σ K = opWp P gl own (.unOp o t x) ρ σ K := (rfl)
theorem d_makeFunc {fn : Fn} {a b : Array Operand} : opD P gl own cst (.makeFunc fn a b) ρ σ K = opWp P gl own (.makeFunc fn a b) ρ σ K := (rfl)
theorem d_slice {lo hi mx : Option Operand} : opD P gl own cst (.slice t x lo hi mx) ρ σ K = opWp P gl own (.slice t x lo hi mx) ρ σ K := (rfl)
/-! ### Values -/
theorem l_c {ti : TyI} {cs : List AV} : loadWp ti σ (.cptr cs) K = ((0 < ti.sz ∧ ti.sz ≤ cs.length) ∧ K (mkV ti.ty.agg (cs.take ti.sz)) σ) := (rfl)
theorem l_p {ti : TyI} {b o : Nat} : loadWp ti σ (.ptr b o) K = withRd (look σ b) ((@Hid _ (HK.mk (fun cs => (0 < ti.sz ∧ o + ti.sz ≤ cs.length) ∧ K (mkV ti.ty.agg ((cs.drop o).take ti.sz)) σ)))) := by
  unfold loadWp withRd; simp only [Hid]
  cases look σ b with
  | none => rfl
  | some o => cases o <;> rfl
theorem s_p {ti : TyI} {b o : Nat} {v : AV} : storeWp ti σ (.ptr b o) v K = withO (cellsOf v) ((@Hid _ (HK.mk (fun c => withOwn (look σ b) ((@Hid _ (HK.mk (fun cs => (c.length = ti.sz ∧ o + ti.sz ≤ cs.length) ∧ K .top (setAt σ b (.own (splice cs o c))))))))))) := by
  unfold storeWp withO withOwn; simp only [Hid]
  cases cellsOf v <;> rfl
variable {K : AV → Prop}
theorem f_eq {fs : List (Nat × TypeId)} {sz by_ : Nat} {zero : List Value} {a : AV} {f : Nat} : fieldWp P ⟨.strct fs, sz, by_, zero⟩ a f K = withO (fieldPl P fs f) ((@Hid _ (HK.mk (fun p => p.2 ≠ 0 ∧ (match a with
      | .cptr cs => K (.cptr (cs.drop p.1))
      | .raw (.pointer (some ⟨b, q, none⟩)) => K (.ptr b (q + p.1))
      | _ => False))))) := by
  unfold fieldWp withO; simp only [Hid]
  cases fieldPl P fs f <;> rfl
theorem ix_l {e : TypeId} {sz by_ : Nat} {zero : List Value} {s : Nat} {xs : List (List AV)} {k : IntKind} {n : Int} : indexWp P ⟨.slice e, sz, by_, zero⟩ (.list s xs) (.raw (.int k n)) K = withO (TI P e) ((@Hid _ (HK.mk (fun te => s = te.sz ∧ 0 ≤ n ∧ withO (xs[n.toNat]?) ((@Hid _ (HK.mk (fun x => K (.cptr x))))))))) := by
  unfold indexWp withO; simp only [Hid]
  cases TI P e <;> try rfl
  simp only
  congr 2
  cases xs[n.toNat]? <;> simp
theorem ix_v {e : TypeId} {sz by_ : Nat} {zero : List Value} {b s : Nat} {xs : List (List AV)} {k : IntKind} {n : Int} : indexWp P ⟨.slice e, sz, by_, zero⟩ (.vec b s xs) (.raw (.int k n)) K = withO (TI P e) ((@Hid _ (HK.mk (fun te => s = te.sz ∧ 0 ≤ n ∧ withO (xs[n.toNat]?) ((@Hid _ (HK.mk (fun x => K (.cptr x))))))))) := by
  unfold indexWp withO; simp only [Hid]
  cases TI P e <;> try rfl
  simp only
  congr 2
  cases xs[n.toNat]? <;> simp
theorem ix_m {e : TypeId} {sz by_ : Nat} {zero : List Value} {b o l c : Nat} {k : IntKind} {n : Int} : indexWp P ⟨.slice e, sz, by_, zero⟩ (.msl b o l c) (.raw (.int k n)) K = withO (TI P e) ((@Hid _ (HK.mk (fun te => (0 ≤ n ∧ n < l) ∧ K (.ptr b (o + n.toNat * te.sz)))))) := by
  unfold indexWp withO; simp only [Hid]
  cases TI P e <;> rfl
theorem ix_ac {m : Nat} {e : TypeId} {sz by_ : Nat} {zero : List Value} {cs : List AV} {k : IntKind} {n : Int} : indexWp P ⟨.arr m e, sz, by_, zero⟩ (.cptr cs) (.raw (.int k n)) K = withO (TI P e) ((@Hid _ (HK.mk (fun te => (0 ≤ n ∧ n < m ∧ 1 < m) ∧ K (.cptr (cs.drop (n.toNat * te.sz))))))) := by
  unfold indexWp withO; simp only [Hid]
  cases TI P e <;> rfl
theorem ix_ap {m : Nat} {e : TypeId} {sz by_ : Nat} {zero : List Value} {b o : Nat} {k : IntKind} {n : Int} : indexWp P ⟨.arr m e, sz, by_, zero⟩ (.ptr b o) (.raw (.int k n)) K = withO (TI P e) ((@Hid _ (HK.mk (fun te => (0 ≤ n ∧ n < m ∧ 1 < m) ∧ K (.ptr b (o + n.toNat * te.sz)))))) := by
  unfold indexWp withO; simp only [Hid]
  cases TI P e <;> rfl
theorem el_s {sz by_ : Nat} {zero : List Value} {l : List UInt8} {k : IntKind} {n : Int} : elemWp P ⟨.str, sz, by_, zero⟩ (.str l) (.raw (.int k n)) K = (0 ≤ n ∧ withO (l[n.toNat]?) ((@Hid _ (HK.mk (fun c => K (.byte c.toNat)))))) := by
  unfold elemWp withO; simp only [Hid]
  congr 1
  cases l[n.toNat]? <;> simp
theorem el_a {m : Nat} {e : TypeId} {sz by_ : Nat} {zero : List Value} {cs : List AV} {k : IntKind} {n : Int} : elemWp P ⟨.arr m e, sz, by_, zero⟩ (.agg cs) (.raw (.int k n)) K = withO (TI P e) ((@Hid _ (HK.mk (fun te => (0 ≤ n ∧ n < m ∧ 0 < te.sz ∧ (n.toNat + 1) * te.sz ≤ cs.length) ∧ K (mkV te.ty.agg ((cs.drop (n.toNat * te.sz)).take te.sz)))))) := by
  unfold elemWp withO; simp only [Hid]
  cases TI P e <;> rfl
theorem isU8_eq {e : TypeId} : isU8 P e = withO (TI P e) ((@Hid _ (HK.mk (fun te => match te.ty with | .int .u8 => True | _ => False)))) := by
  unfold isU8 withO; simp only [Hid]
  cases TI P e <;> rfl
theorem cv_own {e : TypeId} {b o n c : Nat} : convR P (.slice e) .str σ (.msl b o n c) K = withOwn (look σ b) ((@Hid _ (HK.mk (fun cs => isU8 P e ∧ o + n ≤ cs.length ∧ ∃ l : List UInt8, (cs.drop o).take n = l.map (fun c => AV.byte c.toNat) ∧ K (.str l))))) := (rfl)
theorem cv_int {s d : Ty} {k : IntKind} {n : Int} : convR P s d σ (.raw (.int k n)) K = convWp P s d (.raw (.int k n)) K := (rfl)
theorem cv_str {s d : Ty} {l : List UInt8} : convR P s d σ (.str l) K = convWp P s d (.str l) K := (rfl)
theorem cv_list {s d : Ty} {sz : Nat} {l : List (List AV)} : convR P s d σ (.list sz l) K = convWp P s d (.list sz l) K := (rfl)
theorem cv_vec {s d : Ty} {b sz : Nat} {l : List (List AV)} : convR P s d σ (.vec b sz l) K = convWp P s d (.vec b sz l) K := (rfl)
theorem cv_mt {s d : Ty} : convR P s d σ .mt K = convWp P s d .mt K := (rfl)
theorem cv_nil {s d : Ty} : convR P s d σ .nils K = convWp P s d .nils K := (rfl)
variable {K : AV → Store → Prop} {u : TypeId}
theorem b_len {t : TypeId} {a : AV} : builtinWp P own .len #[t] [a] σ K = withO (TI P t) ((@Hid _ (HK.mk (fun ti => lenWp ti a ((@Hid _ (HK.mk (fun r => K r σ)))))))) := by
  unfold builtinWp withO; simp only [Hid]
  cases TI P t <;> rfl
def appR (P : Program) (own : Bool) (t u : Option TyI) (a x : AV) (σ : Store) (K : AV → Store → Prop) : Prop := withO t fun ti => withO u fun ui => match ti.ty, ui.ty with
  | .slice e, .slice _ => withO (TI P e) fun te => appendWp own te a x σ K
  | .slice e, .str => withO (TI P e) fun te => appendWp own te a x σ K
  | _, _ => False
theorem appR_s {e f : TypeId} {s1 y1 s2 y2 : Nat} {z1 z2 : List Value} {a x : AV} : appR P own (some ⟨.slice e, s1, y1, z1⟩) (some ⟨.slice f, s2, y2, z2⟩) a x σ K = withO (TI P e) ((@Hid _ (HK.mk (fun te => appendWp own te a x σ ((@Hid _ (HK.mk (K)))))))) := by
  unfold appR withO; simp only [Hid]
theorem appR_t {e : TypeId} {s1 y1 s2 y2 : Nat} {z1 z2 : List Value} {a x : AV} : appR P own (some ⟨.slice e, s1, y1, z1⟩) (some ⟨.str, s2, y2, z2⟩) a x σ K = withO (TI P e) ((@Hid _ (HK.mk (fun te => appendWp own te a x σ ((@Hid _ (HK.mk (K)))))))) := by
  unfold appR withO; simp only [Hid]
theorem b_append {a x : AV} : builtinWp P own .append #[t, u] [a, x] σ K = appR P own (TI P t) (TI P u) a x σ ((@Hid _ (HK.mk (K)))) := by
  unfold builtinWp appR withO; simp only [Hid]
  cases TI P t <;> cases TI P u <;> try rfl
  rename_i ti ui
  obtain ⟨ty1, _, _, _⟩ := ti
  obtain ⟨ty2, _, _, _⟩ := ui
  cases ty1 <;> cases ty2 <;> try rfl
  · rename_i e; simp only; cases TI P e <;> rfl
  · rename_i e _; simp only; cases TI P e <;> rfl
theorem b_clear {b o n c : Nat} : builtinWp P own .clear #[t] [.msl b o n c] σ K = elTI P (TI P t) ((@Hid _ (HK.mk (fun te => withOwn (look σ b) ((@Hid _ (HK.mk (fun cs => (0 < te.sz ∧ o + n * te.sz ≤ cs.length) ∧ K (.tup []) (setAt σ b (.own (splice cs o (reps n (te.zero.map ofCell))))))))))))) := by
  unfold builtinWp elTI withO withOwn; simp only [Hid]
  cases TI P t <;> try rfl
  rename_i ti
  obtain ⟨ty1, _, _, _⟩ := ti
  cases ty1 <;> try rfl
  rename_i e
  simp only
  cases TI P e <;> rfl
end
theorem imp_tt {p : Prop} : (true = true → p) ↔ p := by simp
theorem imp_ft {p : Prop} : (false = true → p) ↔ True := by simp
theorem imp_tf {p : Prop} : (true = false → p) ↔ True := by simp
theorem imp_ff {p : Prop} : (false = false → p) ↔ p := by simp
theorem imp_dt {q p : Prop} [Decidable q] : (decide q = true → p) ↔ (q → p) := by simp
theorem imp_df {q p : Prop} [Decidable q] : (decide q = false → p) ↔ (¬ q → p) := by simp
theorem imp_nt {q : Bool} {p : Prop} : ((!q) = true → p) ↔ (q = false → p) := by simp
theorem imp_nf {q : Bool} {p : Prop} : ((!q) = false → p) ↔ (q = true → p) := by simp
theorem ex_map {α : Type} {l : List α} {f : α → List AV} {i : Nat} {K : List AV → Prop} : (∃ x, (l.map f)[i]? = some x ∧ K x) ↔ ∃ y, l[i]? = some y ∧ K (f y) := by
  simp only [List.getElem?_map]
  constructor
  · rintro ⟨x, h1, h2⟩
    cases h : l[i]? with
    | none => rw [h] at h1; simp at h1
    | some y => rw [h] at h1; simp at h1; exact ⟨y, rfl, h1 ▸ h2⟩
  · rintro ⟨y, h1, h2⟩
    exact ⟨f y, by rw [h1]; rfl, h2⟩
section
variable {e : TypeId} {sz by_ s n c b : Nat} {zero : List Value} {xs : List (List AV)} {l : List UInt8} {A : Option Addr} {K : AV → Prop}
@[go_sem] theorem lw_l : lenWp ⟨.slice e, sz, by_, zero⟩ (.list s xs) K = K (.int xs.length) := (rfl)
@[go_sem] theorem lw_v : lenWp ⟨.slice e, sz, by_, zero⟩ (.vec b s xs) K = K (.int xs.length) := (rfl)
@[go_sem] theorem lw_m : lenWp ⟨.slice e, sz, by_, zero⟩ (.raw (.slice A n c)) K = K (.int n) := (rfl)
@[go_sem] theorem lw_t : lenWp ⟨.slice e, sz, by_, zero⟩ .mt K = K (.int 0) := (rfl)
@[go_sem] theorem lw_s : lenWp ⟨.str, sz, by_, zero⟩ (.str l) K = K (.int l.length) := (rfl)
end
theorem toNat_nat {n : Nat} : ((n : Int)).toNat = n := (rfl)
attribute [go_sem ↓] cnd_true cnd_false
attribute [go_sem low] cnd_any
attribute [go_sem] hid1 hid2 hid3 cnd_true cnd_false cnd_decide cnd_not cndA_eq grdA_t grdA_f grdA_u withO_some withO_map withOwn_own withRd_own withRd_fixd withClos_eq withTup_eq withInt_eq
  getO pickC pickL cw_skip cw_region cw_draw cw_seq cw_cond cw_block cw_loop cw_exit cw_ret ow_nil ow_cons ow_guard od_nil od_cons od_guard gTmp_zero gTmp_succ
  o_move o_assign o_pick o_alloc o_box buildR_s buildR_a o_build elTI_eq o_buildSlice o_load o_store nilC_p nilC_c nilC_f o_nilCheck binR_eq o_binOp o_unOp o_convert o_makeFunc mkSl_eq o_makeSlice o_fieldAddr o_indexAddr o_index o_slice o_extract o_builtin o_call
  d_builtin d_call d_binOp loadC_eq d_load d_convert d_move d_assign d_pick d_alloc d_box d_store d_nilCheck d_fieldAddr d_indexAddr d_index d_extract d_makeSlice d_build d_buildSlice d_unOp d_makeFunc d_slice
  l_c l_p s_p f_eq ix_l ix_v ix_m ix_ac ix_ap el_s el_a isU8_eq cv_own cv_int cv_str cv_list cv_vec cv_mt cv_nil b_len appR_s appR_t b_append b_clear
  cstAt bndWp sliceWp convWp ev get put keep lookG ofVal ofCell mkV fresh look setAt del intWp shiftWp strWp isNilC nilWp binWp unWp layA rowsOf reps fieldPl allTI rowsIn ownAt dstOk
  resOf ressOf retWp enterEnv Ty.agg imp_tt imp_ft imp_tf imp_ff imp_dt imp_df imp_nt imp_nf ex_map
  List.map_cons List.map_nil cond_true cond_false BEq.rfl Nat.blt_eq List.getElem?_cons_zero List.getElem?_cons_succ List.getElem?_nil List.contains_cons List.contains_nil Bool.or_true Bool.or_false Bool.true_or Bool.false_or
  List.take_succ_cons List.take_zero List.drop_succ_cons List.drop_zero List.take_nil List.drop_nil List.nil_append List.cons_append List.append_nil List.length_cons List.length_nil List.headD_cons List.headD_nil List.length_map
  Nat.zero_add Nat.add_zero Nat.zero_mul Nat.mul_zero Nat.one_mul Nat.mul_one Bool.and_true Bool.true_and Bool.and_false Bool.false_and List.all_cons List.all_nil toNat_nat
  Bool.not_true Bool.not_false and_true true_and true_implies implies_true forall_const Value.oneCell' Option.isSome_some Option.map_some Option.map_none ite_self Option.some.injEq exists_eq_left' Int.natCast_nonneg

theorem splice_succ {a : AV} {r c : List AV} {n : Nat} : splice (a :: r) (n + 1) c = a :: splice r n c := by
  simp only [splice, List.take_succ_cons, List.cons_append]
  congr 2
  rw [show n + 1 + c.length = (n + c.length) + 1 by omega, List.drop_succ_cons]
theorem splice_zero {r c : List AV} : splice r 0 c = c ++ r.drop c.length := by simp [splice]
theorem co_agg {cs : List AV} : cellsOf (.agg cs) = some cs := rfl
theorem co_raw {v : Value} : cellsOf (.raw v) = bif v.oneCell' then some [.raw v] else none := rfl
theorem co_str {l : List UInt8} : cellsOf (.str l) = some [.str l] := rfl
theorem co_list {sz : Nat} {l : List (List AV)} : cellsOf (.list sz l) = some [.list sz l] := rfl
theorem co_vec {b sz : Nat} {l : List (List AV)} : cellsOf (.vec b sz l) = some [.vec b sz l] := rfl
theorem co_cptr {l : List AV} : cellsOf (.cptr l) = some [.cptr l] := rfl
theorem co_clos {f : Fn} {a b : List AV} : cellsOf (.clos f a b) = some [.clos f a b] := rfl
theorem co_mt : cellsOf .mt = some [.mt] := rfl
attribute [go_sem] splice_succ splice_zero co_agg co_raw co_str co_list co_vec co_cptr co_clos co_mt
theorem reps_one {α : Type} {x : α} : ∀ n, reps n [x] = List.replicate n x
  | 0 => rfl
  | n + 1 => by simp only [reps, reps_one n, List.replicate_succ, List.cons_append, List.nil_append]
theorem splice_mid {pre bs c d : List AV} {n : Nat} (hn : n = pre.length) (hc : c.length = d.length) : splice (pre ++ d ++ bs) n c = pre ++ c ++ bs := by
  subst hn
  simp only [splice]
  have e1 : List.take pre.length (pre ++ d ++ bs) = pre := by rw [List.append_assoc, List.take_left]
  have e2 : List.drop (pre.length + c.length) (pre ++ d ++ bs) = bs := by rw [hc, ← List.length_append, List.drop_left]
  rw [e1, e2]
/-! ### Stores that lie apart -/
def Dj (τ σ : Store) : Prop := ∀ p ∈ τ, fresh p.1 σ
theorem Dj.nil (σ : Store) : Dj [] σ := fun p hp => by cases hp
theorem Dj.one {b : Nat} {o : AObj} {σ : Store} (h : fresh b σ) : Dj [(b, o)] σ := fun p hp => by simp only [List.mem_singleton] at hp; subst hp; exact h
theorem fresh_ne {b k : Nat} {o : AObj} : ∀ {σ : Store}, fresh b σ → look σ k = some o → k ≠ b
  | [], _, h => by simp [look] at h
  | (c, x) :: r, hf, h => by
    simp only [fresh] at hf
    simp only [look] at h
    by_cases hk : k = c
    · subst hk; exact hf.1.2
    · have : (k == c) = false := by simpa using hk
      simp only [this, cond_false] at h
      exact fresh_ne hf.2 h
theorem look_hd {b : Nat} {o : AObj} {r : Store} : look ((b, o) :: r) b = some o := by simp [look]
theorem rowsIn_list {σ : Store} {sz : Nat} {xs : List (List AV)} : rowsIn σ sz (.list sz xs) = some xs := by simp [rowsIn]
theorem look_dj {τ σ : Store} {b : Nat} {o : AObj} (h : Dj τ σ) (hb : look σ b = some o) : look (τ ++ σ) b = some o := by
  induction τ with
  | nil => exact hb
  | cons p r ih =>
    obtain ⟨c, x⟩ := p
    have hc := fresh_ne (h (c, x) (by simp)) hb
    have : (b == c) = false := by simpa using hc
    simp only [List.cons_append, look, this, cond_false]
    exact ih fun q hq => h q (by simp [hq])
theorem setAt_dj {τ σ : Store} {b : Nat} {o x : AObj} (h : Dj τ σ) (hb : look σ b = some o) : setAt (τ ++ σ) b x = τ ++ setAt σ b x := by
  induction τ with
  | nil => rfl
  | cons p r ih =>
    obtain ⟨c, y⟩ := p
    have hc := fresh_ne (h (c, y) (by simp)) hb
    have : (b == c) = false := by simpa using hc
    simp only [List.cons_append, setAt, this, cond_false]
    rw [ih fun q hq => h q (by simp [hq])]

theorem Dj.ne {τ r : Store} {b : Nat} {o : AObj} (h : Dj τ ((b, o) :: r)) : ∀ p ∈ τ, b ≠ p.1 := fun p hp => (h p hp).1.2
theorem Dj.look {τ r : Store} {b : Nat} {o : AObj} (h : Dj τ ((b, o) :: r)) (x : AObj) (r' : Store) : look (τ ++ (b, x) :: r') b = some x := by
  replace h := h.ne
  induction τ with
  | nil => simp [AX.look]
  | cons p t ih =>
    obtain ⟨c, y⟩ := p
    have hc : (b == c) = false := by simpa using h (c, y) (by simp)
    simp only [List.cons_append, AX.look, hc, cond_false]
    exact ih fun q hq => h q (by simp [hq])
theorem Dj.set {τ r : Store} {b : Nat} {o : AObj} (h : Dj τ ((b, o) :: r)) (x y : AObj) (r' : Store) : setAt (τ ++ (b, x) :: r') b y = τ ++ (b, y) :: r' := by
  replace h := h.ne
  induction τ with
  | nil => simp [setAt]
  | cons p t ih =>
    obtain ⟨c, z⟩ := p
    have hc : (b == c) = false := by simpa using h (c, z) (by simp)
    simp only [List.cons_append, setAt, hc, cond_false]
    rw [ih fun q hq => h q (by simp [hq])]
theorem Dj.del {τ r : Store} {b : Nat} {o : AObj} (h : Dj τ ((b, o) :: r)) (x : AObj) (r' : Store) : del (τ ++ (b, x) :: r') b = τ ++ r' := by
  replace h := h.ne
  induction τ with
  | nil => simp [AX.del]
  | cons p t ih =>
    obtain ⟨c, z⟩ := p
    have hc : (b == c) = false := by simpa using h (c, z) (by simp)
    simp only [List.cons_append, AX.del, hc, cond_false]
    rw [ih fun q hq => h q (by simp [hq])]
theorem Gh.cut {gl : Globs} {σ τ : Store} {a b : AV} (h : τ.Sublist σ) (k : Gh gl τ a [] b) : Gh gl σ a [] b := Turn.gh (Turn.sub h) k

/-! ### A slice that grows, or is still nil -/
def Acc (sz : Nat) (xs : List (List AV)) (out : AV) (τ : Store) : Prop := (xs = [] ∧ (out = .nils ∨ out = .mt) ∧ τ = []) ∨ ∃ b, out = .vec b sz xs ∧ τ = [(b, .tail (xs.length * sz))]
theorem Sees.mt {gl : Globs} {σ : Store} {sz} : Sees gl σ .mt (.list sz []) := fun w M v _ h => by
  simp only [rep] at h ⊢
  obtain ⟨A, rfl⟩ := h
  exact ⟨some A, 0, rfl, Nat.le_refl _, .inl (by trivial)⟩
theorem Acc.nil (sz : Nat) : Acc sz [] .nils [] := .inl ⟨rfl, .inl rfl, rfl⟩
theorem Acc.mt (sz : Nat) : Acc sz [] .mt [] := .inl ⟨rfl, .inr rfl, rfl⟩
theorem Acc.vec (b sz : Nat) (xs : List (List AV)) : Acc sz xs (.vec b sz xs) [(b, .tail (xs.length * sz))] := .inr ⟨b, rfl, rfl⟩
theorem Acc.sees {gl : Globs} {σ : Store} {sz xs out τ} (h : Acc sz xs out τ) : Sees gl σ out (.list sz xs) := by
  rcases h with ⟨rfl, rfl | rfl, rfl⟩ | ⟨b, rfl, rfl⟩
  · exact Sees.nil
  · exact Sees.mt
  · exact Sees.vec
theorem Acc.gh {gl : Globs} {sz xs out τ} (h : Acc sz xs out τ) : Gh gl τ out [] (.list sz xs) := Gh.sees h.sees (List.nil_sublist _)
theorem Acc.len {e : TypeId} {sz xs out τ} (h : Acc sz xs out τ) {ti : TyI} (hs : ti.ty = .slice e) {K : AV → Prop} (hk : K (.int xs.length)) : lenWp ti out K := by
  rcases h with ⟨rfl, rfl | rfl, rfl⟩ | ⟨b, rfl, rfl⟩ <;> unfold lenWp <;> rw [hs] <;> simpa using hk
/-- Appending to it, whatever else is in the store behind its own entry. -/
theorem Acc.append {sz xs out τ} (h : Acc sz xs out τ) {te : TyI} (hsz : te.sz = sz) {x : AV} {ys : List (List AV)} {σ : Store} (hx : rowsIn (τ ++ σ) sz x = some ys) (hy : ys ≠ []) (h0 : 0 < sz)
    (hb : xs.length + ys.length ≤ 70368744177664 ∧ (xs.length + ys.length) * te.by_ ≤ 70368744177664) {K : AV → Store → Prop}
    (hk : ∀ out' τ', Acc sz (xs ++ ys) out' τ' → Dj τ' σ → K out' (τ' ++ σ)) : appendWp false te out x (τ ++ σ) K := by
  subst hsz
  unfold appendWp
  rw [hx]
  rcases h with ⟨rfl, rfl | rfl, rfl⟩ | ⟨b, rfl, rfl⟩
  · simp only [List.nil_append]
    refine ⟨⟨h0, by simpa using hb.1, by simpa using hb.2⟩, fun e => absurd e hy, fun _ b hf => ?_⟩
    exact hk _ _ (Acc.vec b te.sz ys) (Dj.one hf)
  · simp only [List.nil_append]
    refine ⟨⟨h0, by simpa using hb.1, by simpa using hb.2⟩, fun e => absurd e hy, fun _ b hf => ?_⟩
    exact hk _ _ (Acc.vec b te.sz ys) (Dj.one hf)
  · simp only [List.cons_append, List.nil_append, look, BEq.rfl, cond_true, del]
    refine ⟨trivial, trivial, ⟨h0, hb⟩, fun b' hf => ?_⟩
    have := hk _ _ (Acc.vec b' te.sz (xs ++ ys)) (Dj.one hf)
    simpa using this

/-! ### An own slice that grows, or is still nil -/
def Rows (sz : Nat) (xs : List (List AV)) : Prop := ∀ e ∈ xs, e.length = sz
theorem Rows.len {sz : Nat} : ∀ {xs : List (List AV)}, Rows sz xs → xs.flatten.length = xs.length * sz
  | [], _ => by simp
  | e :: xs, h => by
    have h1 := h e (by simp)
    have h2 := Rows.len (xs := xs) fun x hx => h x (by simp [hx])
    simp only [List.flatten_cons, List.length_append, h1, h2, List.length_cons, Nat.add_mul, Nat.one_mul]
    omega
theorem Rows.app {sz : Nat} {xs ys : List (List AV)} (h : Rows sz xs) (k : Rows sz ys) : Rows sz (xs ++ ys) := fun e he => (List.mem_append.1 he).elim (h e) (k e)
theorem Rows.map {α : Type} {sz : Nat} {f : α → List AV} (hf : ∀ x, (f x).length = sz) (l : List α) : Rows sz (l.map f) := fun e he => by
  obtain ⟨x, _, rfl⟩ := List.mem_map.1 he
  exact hf x
theorem rowsOf_app {sz : Nat} : ∀ {xs : List (List AV)} (rest : List AV), Rows sz xs → rowsOf xs.length sz (xs.flatten ++ rest) = xs
  | [], _, _ => rfl
  | e :: xs, rest, h => by
    have h1 := h e (by simp)
    have h2 := rowsOf_app (xs := xs) rest fun x hx => h x (by simp [hx])
    subst h1
    simp only [List.length_cons, rowsOf, List.flatten_cons, List.append_assoc, List.take_left, List.drop_left, h2]
def Buf (sz : Nat) (xs : List (List AV)) (out : AV) (τ : Store) : Prop := (xs = [] ∧ (out = .nils ∨ out = .mt) ∧ τ = []) ∨
  ∃ b c rest, out = .msl b 0 xs.length c ∧ τ = [(b, .own (xs.flatten ++ rest))] ∧ xs.length ≤ c ∧ c * sz ≤ xs.length * sz + rest.length ∧ Rows sz xs
theorem Buf.nil (sz : Nat) : Buf sz [] .nils [] := .inl ⟨rfl, .inl rfl, rfl⟩
theorem Buf.mt (sz : Nat) : Buf sz [] .mt [] := .inl ⟨rfl, .inr rfl, rfl⟩
theorem Buf.rows {sz xs out τ} (h : Buf sz xs out τ) : Rows sz xs := by
  rcases h with ⟨rfl, _⟩ | ⟨b, c, rest, _, _, _, _, h⟩
  · intro e he; simp at he
  · exact h
theorem Buf.gh {gl : Globs} {sz xs out τ} (h : Buf sz xs out τ) : Gh gl τ out [] (.list sz xs) := by
  rcases h with ⟨rfl, rfl | rfl, rfl⟩ | ⟨b, c, rest, rfl, rfl, h1, h2, h3⟩
  · exact Gh.sees Sees.nil (List.Sublist.refl _)
  · exact Gh.sees Sees.mt (List.Sublist.refl _)
  · have := Gh.slice (gl := gl) (b := b) (n := xs.length) (c := c) (sz := sz) (GhAll.refl [] (xs.flatten ++ rest)) h1 (by rw [List.length_append, h3.len]; omega)
    rwa [rowsOf_app rest h3] at this
theorem Buf.len {e : TypeId} {sz xs out τ} (h : Buf sz xs out τ) {ti : TyI} (hs : ti.ty = .slice e) {K : AV → Prop} (hk : K (.int xs.length)) : lenWp ti out K := by
  rcases h with ⟨rfl, rfl | rfl, rfl⟩ | ⟨b, c, rest, rfl, rfl, _⟩ <;> unfold lenWp <;> rw [hs] <;> simpa using hk
theorem Buf.append {sz xs out τ} (h : Buf sz xs out τ) {te : TyI} (hsz : te.sz = sz) {x : AV} {ys : List (List AV)} {σ : Store} (hx : rowsIn (τ ++ σ) sz x = some ys) (hy : ys ≠ []) (hry : Rows sz ys) (h0 : 0 < sz)
    (hb : xs.length + ys.length ≤ 70368744177664 ∧ (xs.length + ys.length) * te.by_ ≤ 70368744177664) {K : AV → Store → Prop}
    (hk : ∀ out' τ', Buf sz (xs ++ ys) out' τ' → Dj τ' σ → K out' (τ' ++ σ)) : appendWp true te out x (τ ++ σ) K := by
  subst hsz
  unfold appendWp
  rw [hx]
  rcases h with ⟨rfl, rfl | rfl, rfl⟩ | ⟨b, c, rest, rfl, rfl, h1, h2, h3⟩
  · simp only [List.nil_append]
    refine ⟨⟨h0, by simpa using hb.1, by simpa using hb.2⟩, fun e => absurd e hy, fun _ => ?_⟩
    simp only [newBuf, cond_true]
    intro b c rest hf g1 g2
    exact hk _ [(b, .own (ys.flatten ++ rest))] (.inr ⟨b, c, rest, rfl, rfl, g1, g2, hry⟩) (Dj.one hf)
  · simp only [List.nil_append]
    refine ⟨⟨h0, by simpa using hb.1, by simpa using hb.2⟩, fun e => absurd e hy, fun _ => ?_⟩
    simp only [newBuf, cond_true]
    intro b c rest hf g1 g2
    exact hk _ [(b, .own (ys.flatten ++ rest))] (.inr ⟨b, c, rest, rfl, rfl, g1, g2, hry⟩) (Dj.one hf)
  · simp only [List.cons_append, List.nil_append, look, BEq.rfl, cond_true, del]
    refine ⟨⟨h0, h1, by rw [List.length_append, h3.len]; omega, hb⟩, fun b' c' rest' hf g1 g2 g3 => ?_⟩
    have e1 : List.take (xs.length * te.sz) (xs.flatten ++ rest) = xs.flatten := by rw [← h3.len, List.take_left]
    rw [e1]
    have := hk (.msl b' 0 (xs ++ ys).length c') [(b', .own ((xs ++ ys).flatten ++ rest'))] (.inr ⟨b', c', rest', rfl, rfl, by simpa using g1, by simpa using g3, h3.app hry⟩) (Dj.one hf)
    simpa using this
theorem Acc.appendL {sz xs out τ} (h : Acc sz xs out τ) {te : TyI} {x : AV} {ys : List (List AV)} {σ σ0 : Store} {K : AV → Store → Prop} (hσ : σ0 = τ ++ σ) (hsz : te.sz = sz) (hx : rowsIn σ0 sz x = some ys) (h0 : 0 < sz) (hb : xs.length + ys.length < 1073741824 ∧ te.by_ ≤ 65536)
    (hk : ∀ out' τ', Acc sz (xs ++ ys) out' τ' → Dj τ' σ → K out' (τ' ++ σ)) : appendWp false te out x σ0 K := by
  subst hσ
  have hbb : (xs.length + ys.length) * te.by_ ≤ 70368744177664 := Nat.le_trans (Nat.mul_le_mul (show xs.length + ys.length ≤ 1073741824 by omega) hb.2) (by decide)
  by_cases hy : ys = []
  · subst hy
    subst hsz
    rcases h with ⟨rfl, rfl | rfl, rfl⟩ | ⟨b, rfl, rfl⟩
    · unfold appendWp; rw [hx]
      exact ⟨⟨h0, by simp, by simp⟩, fun _ => hk _ [] (Acc.nil te.sz) (Dj.nil _), fun e => absurd rfl e⟩
    · unfold appendWp; rw [hx]
      exact ⟨⟨h0, by simp, by simp⟩, fun _ => hk _ [] (Acc.mt te.sz) (Dj.nil _), fun e => absurd rfl e⟩
    · unfold appendWp; rw [hx]
      simp only [List.cons_append, List.nil_append, look, BEq.rfl, cond_true, del]
      refine ⟨trivial, trivial, ⟨h0, by omega, hbb⟩, fun b' hf => ?_⟩
      have := hk _ _ (Acc.vec b' te.sz (xs ++ [])) (Dj.one hf)
      simpa using this
  · exact h.append hsz hx hy h0 ⟨by omega, hbb⟩ hk
theorem Acc.cells {sz xs out τ} (h : Acc sz xs out τ) : cellsOf out = some [out] := by
  rcases h with ⟨rfl, rfl | rfl, rfl⟩ | ⟨b, rfl, rfl⟩ <;> rfl
theorem Buf.cells {sz xs out τ} (h : Buf sz xs out τ) : cellsOf out = some [out] := by
  rcases h with ⟨rfl, rfl | rfl, rfl⟩ | ⟨b, c, rest, rfl, rfl, _⟩ <;> rfl
theorem seesAll_len {gl : Globs} {σ : Store} : ∀ {as bs : List AV}, SeesAll gl σ as bs → as.length = bs.length
  | [], [], _ => rfl
  | _ :: _, _ :: _, h => by simp [seesAll_len h.2]
  | [], _ :: _, h => h.elim
  | _ :: _, [], h => h.elim
theorem repCells_sees {gl : Globs} {σ : Store} {w M b} (hI : Inv gl w M σ) : ∀ {as bs : List AV} {o : Nat}, SeesAll gl σ as bs → repCells w M b o as → repCells w M b o bs
  | [], [], _, _, h => h
  | _ :: _, _ :: _, _, hs, h => by
    simp only [repCells] at h ⊢
    obtain ⟨⟨h0, v, h1, h2, h3⟩, h4⟩ := h
    exact ⟨⟨h0, v, h1, h2, hs.1 w M v hI h3⟩, repCells_sees hI hs.2 h4⟩
  | [], _ :: _, _, h, _ => h.elim
  | _ :: _, [], _, h, _ => h.elim
theorem Acc.re {gl : Globs} {sz xs out τ} {row row' : List AV} (h : Acc sz (xs ++ [row]) out τ) {σ : Store} (hs : SeesAll gl σ row row') : ∃ out2, Acc sz (xs ++ [row']) out2 τ ∧ Sees gl σ out out2 := by
  rcases h with ⟨h, _⟩ | ⟨b, rfl, rfl⟩
  · simp at h
  · refine ⟨.vec b sz (xs ++ [row']), .inr ⟨b, rfl, by simp⟩, fun w M v hI hr => ?_⟩
    simp only [rep] at hr ⊢
    obtain ⟨cap, e, n, h1, h2, h3, h4, h5⟩ := hr
    refine ⟨cap, e, n, by rw [h1]; simp, by simpa using h2, repRows_of_get fun i r hi => ?_, h4, h5⟩
    have hget := repRows_get h3
    by_cases hlt : i < xs.length
    · rw [List.getElem?_append_left hlt] at hi
      exact hget i r (by rw [List.getElem?_append_left hlt]; exact hi)
    · have hi2 : i = xs.length := by
        have := (List.getElem?_eq_some_iff.1 hi).1
        simp at this; omega
      subst hi2
      simp at hi
      subst hi
      obtain ⟨g1, g2⟩ := hget xs.length row (by simp)
      exact ⟨by rw [← seesAll_len hs]; exact g1, repCells_sees hI hs g2⟩
theorem Recast.sees {gl : Globs} {σ : Store} {ρ : Env} {k : Nat} {a b : AV} (ha : get ρ k = a) (h : Sees gl σ a b) : Recast gl σ ρ σ ((k, b) :: ρ) := fun w M f hI hr => by
  refine ⟨M, Stp.refl hI, fun i => ?_⟩
  simp only [get]
  by_cases hi : i = k
  · subst hi
    simp only [BEq.rfl, cond_true]
    exact h w M _ hI (ha ▸ hr i)
  · have : (i == k) = false := by simpa using hi
    simp only [this, cond_false]
    exact hr i
theorem Acc.push {sz xs out τ} (h : Acc sz xs out τ) {te : TyI} {row : List AV} {σ σ0 : Store} {K : AV → Store → Prop} (hσ : σ0 = τ ++ σ) (hsz : te.sz = sz) (h0 : 0 < sz) (hb : xs.length < 1073741824 ∧ te.by_ ≤ 65536)
    (hk : ∀ out' τ', Acc sz (xs ++ [row]) out' τ' → Dj τ' σ → K out' (τ' ++ σ)) : appendWp false te out (.list sz [row]) σ0 K := by
  subst hσ
  refine h.append hsz (ys := [row]) (by simp [rowsIn]) (by simp) h0 ⟨by simp; omega, ?_⟩ hk
  exact Nat.le_trans (Nat.mul_le_mul (show xs.length + 1 ≤ 1073741824 by omega) hb.2) (by decide)
theorem Acc.pushB {sz xs out τ} (h : Acc sz xs out τ) {te : TyI} {row : List AV} {σ σ0 τp : Store} {K : AV → Store → Prop} (hd : Dj τp τ) (hσ : σ0 = τp ++ (τ ++ σ)) (hsz : te.sz = sz) (h0 : 0 < sz) (hb : xs.length < 1073741824 ∧ te.by_ ≤ 65536)
    (hk : ∀ out' τ', Acc sz (xs ++ [row]) out' τ' → Dj τ' (τp ++ σ) → K out' (τ' ++ (τp ++ σ))) : appendWp false te out (.list sz [row]) σ0 K := by
  subst hσ hsz
  have hbb : (xs.length + [row].length) * te.by_ ≤ 70368744177664 := Nat.le_trans (Nat.mul_le_mul (show xs.length + 1 ≤ 1073741824 by omega) hb.2) (by decide)
  have hx : rowsIn (τp ++ (τ ++ σ)) te.sz (.list te.sz [row]) = some [row] := by simp [rowsIn]
  unfold appendWp
  rw [hx]
  rcases h with ⟨rfl, rfl | rfl, rfl⟩ | ⟨b, rfl, rfl⟩
  · refine ⟨⟨h0, by simp, by simpa using hbb⟩, fun e => by simp at e, fun _ b hf => ?_⟩
    exact hk _ _ (Acc.vec b te.sz [row]) (Dj.one hf)
  · refine ⟨⟨h0, by simp, by simpa using hbb⟩, fun e => by simp at e, fun _ b hf => ?_⟩
    exact hk _ _ (Acc.vec b te.sz [row]) (Dj.one hf)
  · simp only [List.cons_append, List.nil_append]
    rw [hd.look, hd.del]
    refine ⟨trivial, rfl, ⟨h0, by simp; omega, hbb⟩, fun b' hf => ?_⟩
    have := hk _ _ (Acc.vec b' te.sz (xs ++ [row])) (Dj.one hf)
    simpa using this
theorem Buf.push {sz xs out τ} (h : Buf sz xs out τ) {te : TyI} {row : List AV} {σ σ0 : Store} {K : AV → Store → Prop} (hσ : σ0 = τ ++ σ) (hsz : te.sz = sz) (h0 : 0 < sz) (hr : row.length = sz) (hb : xs.length < 1073741824 ∧ te.by_ ≤ 65536)
    (hk : ∀ out' τ', Buf sz (xs ++ [row]) out' τ' → Dj τ' σ → K out' (τ' ++ σ)) : appendWp true te out (.list sz [row]) σ0 K := by
  subst hσ
  refine h.append hsz (ys := [row]) (by simp [rowsIn]) (by simp) (fun e he => by simp at he; rw [he]; exact hr) h0 ⟨by simp; omega, ?_⟩ hk
  exact Nat.le_trans (Nat.mul_le_mul (show xs.length + 1 ≤ 1073741824 by omega) hb.2) (by decide)
end Go.AX
end
