/- Rules of proof over abstract values, for any program. -/
import Derived.Test.YtgcglnaffdgpbaaGreatDoorRuleD
import Derived.Still
section
/- Regions whose order is drawn: one order served by the conditions serves every order. -/
namespace Go.AX
open Go

section
variable {P : Program} {gl : Globs}

/-- A call that only computes: it hands back a value that reads as r, the store aside. -/
def Pure (P : Program) (gl : Globs) (f : FuncId) (args : List AV) (r : AV) : Prop := CallWp P gl f args [] fun x σ => x = r ∧ σ = []
def PureWp (P : Program) (gl : Globs) (f : FuncId) (args : List AV) (K : AV → Prop) : Prop := ∃ r, Pure P gl f args r ∧ K r
theorem PureWp.call {f : FuncId} {args : List AV} {σ : Store} {K : AV → Store → Prop} (h : PureWp P gl f args fun r => K r σ) : CallWp P gl f args σ K := by
  obtain ⟨r, h1, h2⟩ := h
  exact CallWp.pure (h1.mono fun x σ' ⟨hx, _⟩ => hx ▸ h2)
theorem Pure.of {f : FuncId} {args : List AV} {r : AV} (h : CallWp P gl f args [] fun x σ => Sees gl σ x r) : Pure P gl f args r :=
  CallWp.gh (h.mono fun _ _ hs => ⟨r, [], Gh.sees hs (List.nil_sublist _), rfl, rfl⟩)
theorem Pure.call {f : FuncId} {args : List AV} {r : AV} {σ : Store} {K : AV → Store → Prop} (h : Pure P gl f args r) (hk : K r σ) : CallWp P gl f args σ K := PureWp.call ⟨r, h, hk⟩
theorem Pure.args {f : FuncId} {as bs : List AV} {r : AV} (h : Pure P gl f bs r) (hs : SeesAll gl [] as bs) : Pure P gl f as r := CallWp.args hs h

variable (P gl)
def cstAt (cf : Cfg) : Op → Bool
  | .load _ (.tmp t) => cf.cp.contains t
  | .call _ => cf.cp.contains 1000000
  | _ => false
def opD (own cst : Bool) (op : Op) (ρ : Env) (σ : Store) (K : AV → Store → Prop) : Prop :=
  match op with
  | .call c => match c.callee with
    | .builtin b => builtinWp P own b c.argTypes (c.args.toList.map (ev gl ρ)) σ K
    | .value f => match ev gl ρ f with
      | .clos (.func g) first caps => bif own then (bif cst then CallWp P gl g (first ++ c.args.toList.map (ev gl ρ) ++ caps) σ K else ∃ r, CallWp P gl g (first ++ c.args.toList.map (ev gl ρ) ++ caps) σ (fun x σ' => x = r ∧ σ' = σ) ∧ K r σ) else PureWp P gl g (first ++ c.args.toList.map (ev gl ρ) ++ caps) fun r => K r σ
      | _ => False
    | _ => False
  | .binOp o t x y _ => match TI P t with
      | some ti => bif isNilC (ev gl ρ y) then False else binWp ti.ty o (ev gl ρ x) (ev gl ρ y) fun r => K r σ
      | none => False
  | .load t a => match TI P t with
    | some ti => bif cst then (match ev gl ρ a with
      | .cptr cs => (0 < ti.sz ∧ ti.sz ≤ cs.length) ∧ K (mkV ti.ty.agg (cs.take ti.sz)) σ
      | _ => False) else loadWp ti σ (ev gl ρ a) K
    | none => False
  | .convert s d x => match TI P s, TI P d with
    | some si, some di => convWp P si.ty di.ty (ev gl ρ x) fun r => K r σ
    | _, _ => False
  | op => opWp P gl own op ρ σ K
/-- 'opsWp', with calls that only compute. -/
def opsD (cf : Cfg) (all : List Oper) : List Oper → Env → Store → (Env → Store → Prop) → Prop
  | [], ρ, σ, K => K ρ σ
  | o :: r, ρ, σ, K => dstOk cf o.dst = true ∧
    match o.guard with
    | none => opD P gl (ownAt cf o.dst) (cstAt cf o.op) o.op ρ σ fun v σ => opsD cf all r (put ρ o.dst v) σ K
    | some (g, p) =>
      match (all[g]?).bind (·.dst) with
      | some t => match get ρ t with
        | .raw (.bool q) =>
          grd p q (opD P gl (ownAt cf o.dst) (cstAt cf o.op) o.op ((t, .bool p) :: ρ) σ fun v σ => opsD cf all r (put ((t, .bool p) :: ρ) o.dst v) σ K)
            (opsD cf all r (put ((t, .bool !p) :: ρ) o.dst (.tup [])) σ K)
        | .tup [] => opsD cf all r (put ρ o.dst (.tup [])) σ K
        | _ => False
      | none => False
variable {P gl}

theorem opD_opWp {own cst : Bool} {op : Op} {ρ : Env} {σ : Store} {K : AV → Store → Prop} (h : opD P gl own cst op ρ σ K) : opWp P gl own op ρ σ K := by
  unfold opD at h
  split at h
  · rename_i c
    unfold opWp
    simp only
    split at h
    · rename_i b hb; simp only [hb]; exact h
    · rename_i f hf
      simp only [hf]
      split at h
      · rename_i g first caps he
        simp only [he]
        cases own with
        | true =>
          cases cst with
          | true => exact h
          | false => obtain ⟨r, h1, h2⟩ := h; exact h1.mono fun x σ' ⟨hx, hs⟩ => by subst hx hs; exact h2
        | false => exact PureWp.call h
      · cases h
    · cases h
  · unfold opWp
    simp only
    split at h
    · rename_i ti ht
      simp only [ht]
      revert h
      cases isNilC _ <;> simp
    · cases h
  · unfold opWp
    simp only
    split at h
    · rename_i ti ht
      simp only [ht]
      cases cst with
      | false => exact h
      | true =>
        simp only [cond_true] at h
        split at h
        · rename_i hx
          rw [hx]
          exact h
        · cases h
    · cases h
  · unfold opWp
    simp only
    split at h
    · rename_i si di hs hd
      simp only [hs, hd]
      split
      · rename_i he
        rw [he] at h
        unfold convWp at h
        simp at h
      · exact h
    · cases h
  · exact h

/-! ### What an operation looks at -/
def EqEv (gl : Globs) (ρ ρ' : Env) (l : List Operand) : Prop := ∀ x ∈ l, ev gl ρ x = ev gl ρ' x
theorem opWp_congr {own : Bool} {op : Op} {ρ ρ' : Env} (h : EqEv gl ρ ρ' op.operands.toList) (σ : Store) (K : AV → Store → Prop) : opWp P gl own op ρ σ K = opWp P gl own op ρ' σ K := by
  have parts : ∀ ps : Array (Nat × Operand), (∀ p ∈ ps.toList, ev gl ρ p.2 = ev gl ρ' p.2) → (ps.toList.map fun (i, x) => (i, ev gl ρ x)) = (ps.toList.map fun (i, x) => (i, ev gl ρ' x)) := fun ps hp =>
    List.map_congr_left fun p hm => by
      obtain ⟨i, x⟩ := p
      simp only [hp _ hm]
  have maps : ∀ l : List Operand, (∀ x ∈ l, ev gl ρ x = ev gl ρ' x) → l.map (ev gl ρ) = l.map (ev gl ρ') := fun l hl => List.map_congr_left hl
  unfold EqEv at h
  cases op <;> simp only [Op.operands] at h <;> unfold opWp <;> simp only
  case move x => rw [h x (by simp)]
  case assign x => rw [h x (by simp)]
  case pick c a b => rw [h c (by simp), h a (by simp), h b (by simp)]
  case box t x => rw [h x (by simp)]
  case build t ps => rw [parts ps fun p hp => h p.2 (by simp; exact ⟨p.1, Array.mem_toList_iff.1 hp⟩)]
  case buildSlice t n ps => rw [parts ps fun p hp => h p.2 (by simp; exact ⟨p.1, Array.mem_toList_iff.1 hp⟩)]
  case load t x => rw [h x (by simp)]
  case store t x y => rw [h x (by simp), h y (by simp)]
  case nilCheck x => rw [h x (by simp)]
  case binOp o t x y _ => rw [h x (by simp), h y (by simp)]
  case unOp o t x => rw [h x (by simp)]
  case convert s d x => rw [h x (by simp)]
  case makeFunc fn first caps => rw [maps first.toList fun x hx => h x (by simp; exact .inl (Array.mem_toList_iff.1 hx)), maps caps.toList fun x hx => h x (by simp; exact .inr (Array.mem_toList_iff.1 hx))]
  case makeSlice t l c => rw [h l (by simp), h c (by simp)]
  case fieldAddr t x f => rw [h x (by simp)]
  case indexAddr t x i => rw [h x (by simp), h i (by simp)]
  case index t x i => rw [h x (by simp), h i (by simp)]
  case slice t x lo hi mx =>
    have hm : ∀ o : Option Operand, (∀ x ∈ o.toList, ev gl ρ x = ev gl ρ' x) → o.map (ev gl ρ) = o.map (ev gl ρ') := fun o ho => by
      cases o with
      | none => rfl
      | some q => simp [ho q (by simp)]
    rw [h x (by simp), hm lo fun y hy => h y (by simp at hy ⊢; simp [hy]), hm hi fun y hy => h y (by simp at hy ⊢; simp [hy]), hm mx fun y hy => h y (by simp at hy ⊢; simp [hy])]
  case extract x i => rw [h x (by simp)]
  case call c =>
    simp only [Call.operands] at h
    have hargs : c.args.toList.map (ev gl ρ) = c.args.toList.map (ev gl ρ') := maps _ fun x hx => h x (by simp; exact .inr (Array.mem_toList_iff.1 hx))
    rw [hargs]
    cases hc : c.callee with
    | value f => simp only; rw [h f (by simp [hc])]
    | builtin b => rfl
    | invoke r m => rfl
theorem opD_congr {own cst : Bool} {op : Op} {ρ ρ' : Env} (h : EqEv gl ρ ρ' op.operands.toList) (σ : Store) (K : AV → Store → Prop) : opD P gl own cst op ρ σ K = opD P gl own cst op ρ' σ K := by
  unfold opD
  cases op
  case call c =>
    unfold EqEv at h
    simp only [Op.operands, Call.operands] at h
    have hargs : c.args.toList.map (ev gl ρ) = c.args.toList.map (ev gl ρ') := List.map_congr_left fun x hx => h x (by simp; exact .inr (Array.mem_toList_iff.1 hx))
    simp only
    rw [hargs]
    cases hc : c.callee with
    | value f => simp only; rw [h f (by simp [hc])]
    | builtin b => rfl
    | invoke r m => rfl
  case binOp o t x y _ =>
    unfold EqEv at h
    simp only [Op.operands] at h
    simp only
    rw [h x (by simp), h y (by simp)]
  case load t a =>
    unfold EqEv at h
    simp only [Op.operands] at h
    simp only
    rw [h a (by simp)]
  case convert s d x =>
    unfold EqEv at h
    simp only [Op.operands] at h
    simp only
    rw [h x (by simp)]
  all_goals exact opWp_congr h σ K
/-! ### One value -/
def One (F : (AV → Prop) → Prop) (K : AV → Prop) : Prop := ∃ r, (∀ K2 : AV → Prop, K2 r → F K2) ∧ K r
theorem One.mk {F : (AV → Prop) → Prop} {K : AV → Prop} {r : AV} (h : ∀ K2 : AV → Prop, K2 r → F K2) (hk : K r) : One F K := ⟨r, h, hk⟩
theorem intWp_one {op : BinOp} {k : IntKind} {x y : Int} {K : AV → Prop} (h : intWp op k x y K) : One (intWp op k x y) K := by
  unfold intWp at h
  split at h
  all_goals first
    | exact h.elim
    | exact ⟨_, fun K2 h2 => ⟨h.1, h2⟩, h.2⟩
    | exact ⟨_, fun K2 h2 => by unfold intWp; exact h2, h⟩
    | exact ⟨_, fun K2 h2 => h2, h⟩
    | skip
  all_goals (refine ⟨_, fun K2 h2 => ?_, h⟩; unfold intWp; split <;> simp_all)
theorem shiftWp_one {op : BinOp} {k : IntKind} {x y : Int} {K : AV → Prop} (h : shiftWp op k x y K) : One (shiftWp op k x y) K := by
  unfold shiftWp at h
  split at h
  · exact ⟨_, fun K2 h2 => ⟨h.1, h2⟩, h.2⟩
  · exact ⟨_, fun K2 h2 => ⟨h.1, h2⟩, h.2⟩
  · cases h
theorem strWp_one {op : BinOp} {x y : List UInt8} {K : AV → Prop} (h : strWp op x y K) : One (strWp op x y) K := by
  unfold strWp at h
  split at h
  · exact ⟨_, fun K2 h2 => ⟨h.1, h2⟩, h.2⟩
  · exact ⟨_, fun K2 h2 => h2, h⟩
  · exact ⟨_, fun K2 h2 => h2, h⟩
  · exact ⟨_, fun K2 h2 => h2, h⟩
  · cases h
theorem binWp_one {ty : Ty} {op : BinOp} {a b : AV} {K : AV → Prop} (h : binWp ty op a b K) : One (binWp ty op a b) K := by
  unfold binWp at h
  split at h
  · split at h
    · obtain ⟨r, h1, h2⟩ := shiftWp_one h; exact ⟨r, fun K2 h3 => h1 K2 h3, h2⟩
    · obtain ⟨r, h1, h2⟩ := shiftWp_one h; exact ⟨r, fun K2 h3 => h1 K2 h3, h2⟩
    · rename_i hne1 hne2
      obtain ⟨hk, h⟩ := h
      obtain ⟨r, h1, h2⟩ := intWp_one h
      refine ⟨r, fun K2 h3 => ?_, h2⟩
      unfold binWp
      simp only
      exact ⟨hk, h1 K2 h3⟩
  · split at h
    · exact ⟨_, fun K2 h2 => h2, h⟩
    · exact ⟨_, fun K2 h2 => h2, h⟩
    · cases h
  · obtain ⟨r, h1, h2⟩ := strWp_one h; exact ⟨r, fun K2 h3 => h1 K2 h3, h2⟩
  · cases h
theorem unWp_one {op : UnOp} {a : AV} {K : AV → Prop} (h : unWp op a K) : One (unWp op a) K := by
  unfold unWp at h
  split at h
  · exact ⟨_, fun K2 h2 => h2, h⟩
  · exact ⟨_, fun K2 h2 => ⟨h.1, h2⟩, h.2⟩
  · exact ⟨_, fun K2 h2 => h2, h⟩
  · cases h
theorem convWp_one {s d : Ty} {a : AV} {K : AV → Prop} (h : convWp P s d a K) : One (convWp P s d a) K := by
  unfold convWp at h
  split at h
  · exact ⟨_, fun K2 h2 => ⟨h.1, h2⟩, h.2⟩
  · rename_i k1 k2 k3 n hk
    refine ⟨_, fun K2 h2 => ?_, h⟩
    cases k2 <;> first | exact h2 | exact absurd rfl hk
  · exact ⟨_, fun K2 h2 => h2, h⟩
  · obtain ⟨h1, l, h2, h3⟩ := h; exact ⟨_, fun K2 h4 => ⟨h1, l, h2, h4⟩, h3⟩
  · obtain ⟨h1, l, h2, h3⟩ := h; exact ⟨_, fun K2 h4 => ⟨h1, l, h2, h4⟩, h3⟩
  · exact ⟨_, fun K2 h2 => ⟨h.1, h2⟩, h.2⟩
  · exact ⟨_, fun K2 h2 => ⟨h.1, h2⟩, h.2⟩
  · cases h
theorem bndWp_one {x : Option AV} {d : Int} {K : Int → Prop} (h : bndWp x d K) : ∃ n, K n ∧ ∀ K2 : Int → Prop, K2 n → bndWp x d K2 := by
  unfold bndWp at h
  split at h
  · exact ⟨_, h, fun K2 h2 => h2⟩
  · exact ⟨_, h, fun K2 h2 => h2⟩
  · cases h
theorem sliceWp_one {sz : Nat} {a : AV} {lo hi mx : Option AV} {K : AV → Prop} (h : sliceWp sz a lo hi mx K) : One (sliceWp sz a lo hi mx) K := by
  unfold sliceWp at h
  split at h
  · obtain ⟨h0, h⟩ := h
    split at h
    · obtain ⟨x, h1, h2⟩ := bndWp_one h
      obtain ⟨y, ⟨h3, h4⟩, h5⟩ := bndWp_one h1
      exact ⟨_, fun K2 hk => ⟨h0, h2 _ (h5 _ ⟨h3, hk⟩)⟩, h4⟩
    · cases h
  · obtain ⟨h0, h⟩ := h
    split at h
    · obtain ⟨x, h1, h2⟩ := bndWp_one h
      obtain ⟨y, ⟨h3, h4⟩, h5⟩ := bndWp_one h1
      exact ⟨_, fun K2 hk => ⟨h0, h2 _ (h5 _ ⟨h3, hk⟩)⟩, h4⟩
    · cases h
  · split at h
    · cases h
    · rename_i hne
      obtain ⟨x, h1, h2⟩ := bndWp_one h
      obtain ⟨y, h3, h5⟩ := bndWp_one h1
      obtain ⟨z, ⟨h6, h7⟩, h8⟩ := bndWp_one h3
      refine ⟨_, fun K2 hk => ?_, h7⟩
      unfold sliceWp
      simp only
      exact h2 _ (h5 _ (h8 _ ⟨h6, hk⟩))
  · cases h
theorem fieldWp_one {ti : TyI} {a : AV} {f : Nat} {K : AV → Prop} (h : fieldWp P ti a f K) : One (fieldWp P ti a f) K := by
  unfold fieldWp at h
  split at h
  · rename_i fs hfs
    split at h
    · rename_i o n hp
      obtain ⟨hn, h⟩ := h
      split at h
      · exact ⟨_, fun K2 h2 => by unfold fieldWp; simp only [hfs, hp]; exact ⟨hn, h2⟩, h⟩
      · exact ⟨_, fun K2 h2 => by unfold fieldWp; simp only [hfs, hp]; exact ⟨hn, h2⟩, h⟩
      · cases h
    · cases h
  · cases h
theorem indexWp_one {ti : TyI} {a i : AV} {K : AV → Prop} (h : indexWp P ti a i K) : One (indexWp P ti a i) K := by
  unfold indexWp at h
  split at h
  · split at h
    · rename_i e he
      split at h
      · rename_i te hte
        split at h
        · obtain ⟨h1, h2, x, hx, hk⟩ := h
          exact ⟨_, fun K2 h3 => by unfold indexWp; simp only [he, hte]; exact ⟨h1, h2, x, hx, h3⟩, hk⟩
        · obtain ⟨h1, h2, x, hx, hk⟩ := h
          exact ⟨_, fun K2 h3 => by unfold indexWp; simp only [he, hte]; exact ⟨h1, h2, x, hx, h3⟩, hk⟩
        · exact ⟨_, fun K2 h3 => by unfold indexWp; simp only [he, hte]; exact ⟨h.1, h3⟩, h.2⟩
        · cases h
      · cases h
    · rename_i m e he
      split at h
      · rename_i te hte
        split at h
        · exact ⟨_, fun K2 h3 => by unfold indexWp; simp only [he, hte]; exact ⟨h.1, h3⟩, h.2⟩
        · exact ⟨_, fun K2 h3 => by unfold indexWp; simp only [he, hte]; exact ⟨h.1, h3⟩, h.2⟩
        · cases h
      · cases h
    · cases h
  · cases h
theorem elemWp_one {ti : TyI} {a i : AV} {K : AV → Prop} (h : elemWp P ti a i K) : One (elemWp P ti a i) K := by
  unfold elemWp at h
  split at h
  · split at h
    · rename_i he
      obtain ⟨h1, c, hc, hk⟩ := h
      exact ⟨_, fun K2 h3 => by unfold elemWp; simp only [he]; exact ⟨h1, c, hc, h3⟩, hk⟩
    · cases h
  · split at h
    · rename_i m e he
      split at h
      · rename_i te hte
        exact ⟨_, fun K2 h3 => by unfold elemWp; simp only [he, hte]; exact ⟨h.1, h3⟩, h.2⟩
      · cases h
    · cases h
  · cases h
theorem lenWp_one {ti : TyI} {a : AV} {K : AV → Prop} (h : lenWp ti a K) : One (lenWp ti a) K := by
  unfold lenWp at h
  split at h
  · rename_i he; exact ⟨_, fun K2 h3 => by unfold lenWp; simp only [he]; exact h3, h⟩
  · rename_i he; exact ⟨_, fun K2 h3 => by unfold lenWp; simp only [he]; exact h3, h⟩
  · rename_i he; exact ⟨_, fun K2 h3 => by unfold lenWp; simp only [he]; exact h3, h⟩
  · rename_i he; exact ⟨_, fun K2 h3 => by unfold lenWp; simp only [he]; exact h3, h⟩
  · rename_i he; exact ⟨_, fun K2 h3 => by unfold lenWp; simp only [he]; exact h3, h⟩
  · cases h

/-! ### Kinds of operations: I looks at no store and yields one value; R reads the store; D writes it; N makes a new block; A does more. -/
inductive Cls where | I | R | D | A | N
  deriving DecidableEq
def clsOp (own cst : Bool) : Op → Cls
  | .move _ | .assign _ | .pick .. | .unOp .. | .convert .. | .makeFunc .. | .fieldAddr .. | .indexAddr .. | .index .. | .extract .. | .nilCheck _ | .build .. => .I
  | .binOp .. => .I
  | .box .. => bif own then .N else .I
  | .buildSlice .. => bif own then .N else .I
  | .makeSlice .. => bif own then .N else .I
  | .alloc _ => .N
  | .slice .. => .I
  | .call c => match c.callee with
    | .builtin .len => .I
    | .value _ => bif own then (bif cst then .A else .R) else .I
    | _ => .A
  | .load .. => bif cst then .I else .R
  | .store .. => .D
  | _ => .A
def cls (cf : Cfg) (o : Oper) : Cls := clsOp (ownAt cf o.dst) (cstAt cf o.op) o.op

theorem opD_I {own cst : Bool} {op : Op} {ρ : Env} {σ : Store} {K : AV → Store → Prop} (hc : clsOp own cst op = .I) (h : opD P gl own cst op ρ σ K) :
    ∃ r, (∀ (σ2 : Store) (K2 : AV → Store → Prop), K2 r σ2 → opD P gl own cst op ρ σ2 K2) ∧ K r σ := by
  cases op <;> simp only [clsOp, reduceCtorEq] at hc
  case move x => exact ⟨_, fun σ2 K2 h2 => h2, h⟩
  case assign x => exact ⟨_, fun σ2 K2 h2 => h2, h⟩
  case pick c a b =>
    unfold opD opWp at h
    simp only at h
    split at h
    · rename_i t ht
      cases t with
      | true => exact ⟨_, fun σ2 K2 h2 => by unfold opD opWp; simp only [ht]; exact ⟨fun _ => h2, nofun⟩, h.1 rfl⟩
      | false => exact ⟨_, fun σ2 K2 h2 => by unfold opD opWp; simp only [ht]; exact ⟨nofun, fun _ => h2⟩, h.2 rfl⟩
    · cases h
  case box t x =>
    cases own with
    | true => simp at hc
    | false =>
      unfold opD opWp at h
      simp only at h
      split at h
      · rename_i cs hcs
        exact ⟨_, fun σ2 K2 h2 => by unfold opD opWp; simp only [hcs]; exact h2, h⟩
      · cases h
  case build t ps =>
    unfold opD opWp at h
    simp only at h
    split at h
    · rename_i ti ht
      split at h
      · rename_i fs hfs
        split at h
        · rename_i cs hcs
          exact ⟨_, fun σ2 K2 h2 => by unfold opD opWp; simp only [ht, hfs, hcs]; exact ⟨h.1, h2⟩, h.2⟩
        · cases h
      · rename_i n e hfs
        split at h
        · rename_i te hte
          split at h
          · rename_i cs hcs
            exact ⟨_, fun σ2 K2 h2 => by unfold opD opWp; simp only [ht, hfs, hte, hcs]; exact h2, h⟩
          · cases h
        · cases h
      · cases h
    · cases h
  case buildSlice t n ps =>
    cases own with
    | true => simp at hc
    | false =>
      unfold opD opWp at h
      simp only at h
      split at h
      · rename_i ti ht
        split at h
        · rename_i e he
          split at h
          · rename_i te hte
            obtain ⟨h1, h⟩ := h
            split at h
            · rename_i cs hcs
              simp only [cond_false] at h
              cases hn : n == 0 with
              | true =>
                rw [hn] at h
                exact ⟨_, fun σ2 K2 h2 => by unfold opD opWp; simp only [ht, he, hte, hcs, cond_false, hn, cond_true]; exact ⟨h1, h2⟩, h⟩
              | false =>
                rw [hn] at h
                exact ⟨_, fun σ2 K2 h2 => by unfold opD opWp; simp only [ht, he, hte, hcs, cond_false, hn]; exact ⟨h1, h2⟩, h⟩
            · cases h
          · cases h
        · cases h
      · cases h
  case nilCheck x =>
    unfold opD opWp at h
    simp only at h
    split at h
    · rename_i hx; exact ⟨_, fun σ2 K2 h2 => by unfold opD opWp; simp only [hx]; exact h2, h⟩
    · rename_i hx; exact ⟨_, fun σ2 K2 h2 => by unfold opD opWp; simp only [hx]; exact h2, h⟩
    · rename_i hx; exact ⟨_, fun σ2 K2 h2 => by unfold opD opWp; simp only [hx]; exact h2, h⟩
    · cases h
  case binOp o t x y yt =>
    unfold opD at h
    simp only at h
    split at h
    · rename_i ti ht
      cases hn : isNilC (ev gl ρ y) with
      | true => rw [hn] at h; simp at h
      | false =>
        rw [hn] at h
        simp only [cond_false] at h
        obtain ⟨r, h1, h2⟩ := binWp_one h
        exact ⟨r, fun σ2 K2 h3 => by unfold opD; simp only [ht, hn, cond_false]; exact h1 _ h3, h2⟩
    · cases h
  case unOp o t x =>
    unfold opD opWp at h
    simp only at h
    obtain ⟨r, h1, h2⟩ := unWp_one h
    exact ⟨r, fun σ2 K2 h3 => by unfold opD opWp; exact h1 _ h3, h2⟩
  case convert s d x =>
    unfold opD at h
    simp only at h
    split at h
    · rename_i si di hs hd
      obtain ⟨r, h1, h2⟩ := convWp_one h
      exact ⟨r, fun σ2 K2 h3 => by unfold opD; simp only [hs, hd]; exact h1 _ h3, h2⟩
    · cases h
  case slice t x lo hi mx =>
    unfold opD opWp at h
    simp only at h
    split at h
    · rename_i ti ht
      split at h
      · rename_i e he
        split at h
        · rename_i te hte
          obtain ⟨r, h1, h2⟩ := sliceWp_one h
          exact ⟨r, fun σ2 K2 h3 => by unfold opD opWp; simp only [ht, he, hte]; exact h1 _ h3, h2⟩
        · cases h
      · cases h
    · cases h
  case makeFunc fn first caps => exact ⟨_, fun σ2 K2 h2 => h2, h⟩
  case makeSlice t l c =>
    cases own with
    | true => simp at hc
    | false =>
      unfold opD opWp at h
      simp only at h
      split at h
      · rename_i ti ht
        split at h
        · rename_i e he
          split at h
          · rename_i te n m hte hl hm
            obtain ⟨h1, h2, h3⟩ := h
            exact ⟨_, fun σ2 K2 h4 => by unfold opD opWp; simp only [ht, he, hte, hl, hm]; exact ⟨h1, h2, h4⟩, h3⟩
          · cases h
        · cases h
      · cases h
  case load t a =>
    cases cst with
    | false => simp at hc
    | true =>
      unfold opD at h
      simp only at h
      split at h
      · rename_i ti ht
        simp only [cond_true] at h
        split at h
        · rename_i cs hx
          exact ⟨_, fun σ2 K2 h2 => by unfold opD; simp only [ht, hx, cond_true]; exact ⟨h.1, h2⟩, h.2⟩
        · cases h
      · cases h
  case fieldAddr t x f =>
    unfold opD opWp at h
    simp only at h
    split at h
    · rename_i ti ht
      obtain ⟨r, h1, h2⟩ := fieldWp_one h
      exact ⟨r, fun σ2 K2 h3 => by unfold opD opWp; simp only [ht]; exact h1 _ h3, h2⟩
    · cases h
  case indexAddr t x i =>
    unfold opD opWp at h
    simp only at h
    split at h
    · rename_i ti ht
      obtain ⟨r, h1, h2⟩ := indexWp_one h
      exact ⟨r, fun σ2 K2 h3 => by unfold opD opWp; simp only [ht]; exact h1 _ h3, h2⟩
    · cases h
  case index t x i =>
    unfold opD opWp at h
    simp only at h
    split at h
    · rename_i ti ht
      obtain ⟨r, h1, h2⟩ := elemWp_one h
      exact ⟨r, fun σ2 K2 h3 => by unfold opD opWp; simp only [ht]; exact h1 _ h3, h2⟩
    · cases h
  case extract x i =>
    unfold opD opWp at h
    simp only at h
    split at h
    · rename_i vs hx
      split at h
      · rename_i v hv
        exact ⟨_, fun σ2 K2 h2 => by unfold opD opWp; simp only [hx, hv]; exact h2, h⟩
      · cases h
    · cases h
  case call c =>
    unfold opD at h
    simp only at h
    split at h
    · rename_i b hb
      have hbl : b = .len := by cases b <;> first | rfl | (simp [hb] at hc)
      subst hbl
      unfold builtinWp at h
      split at h
      · rename_i t a hts has
        split at h
        · rename_i ti ht
          obtain ⟨r, h1, h2⟩ := lenWp_one h
          exact ⟨r, fun σ2 K2 h3 => by unfold opD; simp only [hb]; unfold builtinWp; simp only [hts, has, ht]; exact h1 _ h3, h2⟩
        · cases h
      all_goals first | contradiction | exact h.elim
    · rename_i f hf
      cases own with
      | true => cases cst <;> simp [hf] at hc
      | false =>
        split at h
        · rename_i g first caps he
          obtain ⟨r, h1, h2⟩ := h
          exact ⟨r, fun σ2 K2 h3 => by unfold opD; simp only [hf, he, cond_false]; exact ⟨r, h1, h3⟩, h2⟩
        · cases h
    · cases h
  all_goals simp at hc
theorem opD_R {own cst : Bool} {op : Op} {ρ : Env} {σ : Store} {K : AV → Store → Prop} (hc : clsOp own cst op = .R) (h : opD P gl own cst op ρ σ K) :
    ∃ r, (∀ (K2 : AV → Store → Prop), K2 r σ → opD P gl own cst op ρ σ K2) ∧ K r σ := by
  cases op <;> simp only [clsOp, reduceCtorEq] at hc
  case load t x =>
    cases cst with
    | true => simp at hc
    | false =>
      unfold opD at h
      simp only at h
      split at h
      · rename_i ti ht
        simp only [cond_false] at h
        unfold loadWp at h
        split at h
        · rename_i hx
          exact ⟨_, fun K2 h2 => by unfold opD; simp only [ht, cond_false]; unfold loadWp; simp only [hx]; exact ⟨h.1, h2⟩, h.2⟩
        · rename_i hx
          split at h
          · rename_i cs hl
            exact ⟨_, fun K2 h2 => by unfold opD; simp only [ht, cond_false]; unfold loadWp; simp only [hx, hl]; exact ⟨h.1, h2⟩, h.2⟩
          · rename_i cs hl
            exact ⟨_, fun K2 h2 => by unfold opD; simp only [ht, cond_false]; unfold loadWp; simp only [hx, hl]; exact ⟨h.1, h2⟩, h.2⟩
          · cases h
        · cases h
      · cases h
  case call c =>
    unfold opD at h
    simp only at h
    split at h
    · rename_i b hb
      exfalso
      cases b <;> simp [hb] at hc
    · rename_i f hf
      cases own with
      | false => simp [hf] at hc
      | true =>
        cases cst with
        | true => simp [hf] at hc
        | false =>
          split at h
          · rename_i g first caps he
            obtain ⟨r, h1, h2⟩ := h
            exact ⟨r, fun K2 h3 => by unfold opD; simp only [hf, he, cond_true, cond_false]; exact ⟨r, h1, h3⟩, h2⟩
          · cases h
    · cases h
  all_goals (exfalso; revert hc; first | (cases own <;> simp; done) | (cases cst <;> simp; done) | (split <;> first | (simp; done) | (cases own <;> simp; done) | (cases own <;> cases cst <;> simp; done)))
theorem opD_D {own cst : Bool} {op : Op} {ρ : Env} {σ : Store} {K : AV → Store → Prop} (hc : clsOp own cst op = .D) (h : opD P gl own cst op ρ σ K) :
    ∃ σ', (∀ (K2 : AV → Store → Prop), K2 .top σ' → opD P gl own cst op ρ σ K2) ∧ K .top σ' := by
  cases op <;> simp only [clsOp, reduceCtorEq] at hc
  case store t x y =>
    unfold opD opWp at h
    simp only at h
    split at h
    · rename_i ti ht
      unfold storeWp at h
      split at h
      · rename_i b o c hx hc
        split at h
        · rename_i cs hl
          exact ⟨_, fun K2 h2 => by unfold opD opWp; simp only [ht]; unfold storeWp; simp only [hx, hc, hl]; exact ⟨h.1, h2⟩, h.2⟩
        · cases h
      · cases h
    · cases h
  all_goals (exfalso; revert hc; first | (cases own <;> simp; done) | (cases cst <;> simp; done) | (split <;> first | (simp; done) | (cases own <;> simp; done) | (cases own <;> cases cst <;> simp; done)))

theorem newBuf_mono {own : Bool} {sz : Nat} {ys : List (List AV)} {σ : Store} {K K' : AV → Store → Prop} (h : newBuf own sz ys σ K) (hk : ∀ r σ', K r σ' → K' r σ') : newBuf own sz ys σ K' := by
  unfold newBuf at h ⊢
  cases own with
  | true => exact fun b c rest h1 h2 h3 => hk _ _ (h b c rest h1 h2 h3)
  | false => exact fun b h1 => hk _ _ (h b h1)
theorem appendWp_mono {own : Bool} {te : TyI} {a x : AV} {σ : Store} {K K' : AV → Store → Prop} (h : appendWp own te a x σ K) (hk : ∀ r σ', K r σ' → K' r σ') : appendWp own te a x σ K' := by
  unfold appendWp at h ⊢
  split at h
  · exact h
  · split at h
    · exact ⟨h.1, fun e => hk _ _ (h.2.1 e), fun e => newBuf_mono (h.2.2 e) hk⟩
    · exact ⟨h.1, fun e => hk _ _ (h.2.1 e), fun e => newBuf_mono (h.2.2 e) hk⟩
    · obtain ⟨h1, h⟩ := h
      refine ⟨h1, ?_⟩
      split at h
      · exact ⟨h.1, h.2.1, fun b hb => hk _ _ (h.2.2 b hb)⟩
      · exact h
    · split at h
      · exact ⟨h.1, fun b c rest h1 h2 h3 h4 => hk _ _ (h.2 b c rest h1 h2 h3 h4)⟩
      · exact h
    · exact h
theorem opD_N_iff {own cst : Bool} {op : Op} {ρ : Env} (hc : clsOp own cst op = .N) : ∃ (o : AObj) (f : Nat → AV) (C : Prop), ∀ (σ : Store) (K : AV → Store → Prop), opD P gl own cst op ρ σ K ↔ (C ∧ ∀ b, fresh b σ → K (f b) ((b, o) :: σ)) := by
  have no : (∀ (σ : Store) (K : AV → Store → Prop), opD P gl own cst op ρ σ K → False) → ∃ (o : AObj) (f : Nat → AV) (C : Prop), ∀ (σ : Store) (K : AV → Store → Prop), opD P gl own cst op ρ σ K ↔ (C ∧ ∀ b, fresh b σ → K (f b) ((b, o) :: σ)) :=
    fun h => ⟨.tail 0, fun _ => .top, False, fun σ K => ⟨fun h2 => (h σ K h2).elim, fun h2 => h2.1.elim⟩⟩
  cases op <;> simp only [clsOp, reduceCtorEq] at hc
  case alloc t =>
    cases ht : TI P t with
    | none => exact no fun σ K h => by unfold opD opWp at h; simp only [ht] at h
    | some ti => exact ⟨.own (ti.zero.map ofCell), fun b => .ptr b 0, True, fun σ K => by unfold opD opWp; simp only [ht, true_and]⟩
  case box t x =>
    cases own with
    | false => simp at hc
    | true =>
      cases ht : cellsOf (ev gl ρ x) with
      | none => exact no fun σ K h => by unfold opD opWp at h; simp only [ht] at h
      | some cs => exact ⟨.own cs, fun b => .ptr b 0, True, fun σ K => by unfold opD opWp; simp only [ht, true_and, cond_true]⟩
  case buildSlice t n ps =>
    cases own with
    | false => simp at hc
    | true =>
      cases ht : TI P t with
      | none => exact no fun σ K h => by unfold opD opWp at h; simp only [ht] at h
      | some ti =>
        by_cases he : ∃ e te cs, ti.ty = .slice e ∧ TI P e = some te ∧ layA (fun i => some (i * te.sz, te.sz)) (ps.toList.map fun (i, x) => (i, ev gl ρ x)) (reps n (te.zero.map ofCell)) = some cs
        · obtain ⟨e, te, cs, h1, h2, h3⟩ := he
          exact ⟨.tail (n * te.sz), fun b => .vec b te.sz (rowsOf n te.sz cs), (0 < te.sz ∧ n * te.sz ≤ 16777216), fun σ K => by unfold opD opWp; simp only [ht, h1, h2, h3, cond_true, and_assoc]⟩
        · refine no fun σ K h => ?_
          unfold opD opWp at h
          simp only [ht] at h
          split at h
          · rename_i e h1
            split at h
            · rename_i te h2
              obtain ⟨_, h⟩ := h
              split at h
              · rename_i cs h3; exact he ⟨e, te, cs, h1, h2, h3⟩
              · exact h
            · exact h
          · exact h
  case makeSlice t l c =>
    cases own with
    | false => simp at hc
    | true =>
      cases ht : TI P t with
      | none => exact no fun σ K h => by unfold opD opWp at h; simp only [ht] at h
      | some ti =>
        by_cases he : ∃ e te n m, ti.ty = .slice e ∧ TI P e = some te ∧ ev gl ρ l = .raw (.int .i64 n) ∧ ev gl ρ c = .raw (.int .i64 m)
        · obtain ⟨e, te, n, m, h1, h2, h3, h4⟩ := he
          exact ⟨.own (reps m.toNat (te.zero.map ofCell)), fun b => .msl b 0 n.toNat m.toNat, (0 < te.sz ∧ 0 ≤ n ∧ n ≤ m ∧ m * te.by_ ≤ 140737488355328 ∧ m ≤ 140737488355328), fun σ K => by unfold opD opWp; simp only [ht, h1, h2, h3, h4, cond_true, and_assoc]⟩
        · refine no fun σ K h => ?_
          unfold opD opWp at h
          simp only [ht] at h
          split at h
          · rename_i e h1
            split at h
            · rename_i te n m h2 h3 h4
              exact he ⟨e, te, n, m, h1, h2, h3, h4⟩
            · exact h
          · exact h
  all_goals (exfalso; revert hc; first | (cases own <;> simp; done) | (cases cst <;> simp; done) | (split <;> first | (simp; done) | (cases own <;> simp; done) | (cases own <;> cases cst <;> simp; done)))
theorem opD_N {own cst : Bool} {op : Op} {ρ : Env} {σ : Store} {K : AV → Store → Prop} (hc : clsOp own cst op = .N) (h : opD P gl own cst op ρ σ K) :
    ∃ (o : AObj) (f : Nat → AV), (∀ (σ2 : Store) (K2 : AV → Store → Prop), (∀ b, fresh b σ2 → K2 (f b) ((b, o) :: σ2)) → opD P gl own cst op ρ σ2 K2) ∧ (∀ (σ2 : Store) (K2 : AV → Store → Prop), opD P gl own cst op ρ σ2 K2 → ∀ b, fresh b σ2 → K2 (f b) ((b, o) :: σ2)) := by
  obtain ⟨o, f, C, hi⟩ := opD_N_iff (P := P) (gl := gl) (ρ := ρ) hc
  have hC := ((hi σ K).1 h).1
  exact ⟨o, f, fun σ2 K2 h2 => (hi σ2 K2).2 ⟨hC, h2⟩, fun σ2 K2 h2 => ((hi σ2 K2).1 h2).2⟩
theorem opD_A {own cst : Bool} {op : Op} {ρ : Env} {σ : Store} {K K' : AV → Store → Prop} (hc : clsOp own cst op = .A) (h : opD P gl own cst op ρ σ K) (hk : ∀ r σ', K r σ' → K' r σ') : opD P gl own cst op ρ σ K' := by
  cases op <;> simp only [clsOp, reduceCtorEq] at hc
  case call c =>
    unfold opD at h ⊢
    simp only at h ⊢
    split at h
    · rename_i b hb
      unfold builtinWp at h ⊢
      split at h
      · exfalso; rename_i hts _; simp [hb] at hc
      · split at h
        · split at h
          · split at h
            · exact appendWp_mono h hk
            · exact h
          · split at h
            · exact appendWp_mono h hk
            · exact h
          · exact h
        · exact h
      · split at h
        · split at h
          · split at h
            · split at h
              · exact ⟨h.1, hk _ _ h.2⟩
              · exact h
            · exact h
          · exact h
        · exact h
      · exact h
    · rename_i f hf
      cases own with
      | false => simp [hf] at hc
      | true =>
        cases cst with
        | false => simp [hf] at hc
        | true =>
          simp only [cond_true] at h ⊢
          split at h
          · exact CallWp.mono h hk
          · exact h
    · exact h
  all_goals first | exact h.elim | (exfalso; revert hc; first | (cases own <;> simp; done) | (cases cst <;> simp; done) | (split <;> first | (simp; done) | (cases own <;> simp; done) | (cases own <;> cases cst <;> simp; done)))

theorem opD_mono {own cst : Bool} {op : Op} {ρ : Env} {σ : Store} {K K' : AV → Store → Prop} (h : opD P gl own cst op ρ σ K) (hk : ∀ r σ', K r σ' → K' r σ') : opD P gl own cst op ρ σ K' := by
  cases hc : clsOp own cst op with
  | I => obtain ⟨r, h1, h2⟩ := opD_I hc h; exact h1 σ K' (hk _ _ h2)
  | R => obtain ⟨r, h1, h2⟩ := opD_R hc h; exact h1 K' (hk _ _ h2)
  | D => obtain ⟨r, h1, h2⟩ := opD_D hc h; exact h1 K' (hk _ _ h2)
  | A => exact opD_A hc h hk
  | N => obtain ⟨o, f, h1, h2⟩ := opD_N hc h; exact h1 σ K' fun b hb => hk _ _ (h2 σ K h b hb)
end
end Go.AX
end
section
/- Regions whose order is drawn: the order of a store's entries does not count. -/
namespace Go.AX
open Go

section
variable {P : Program} {gl : Globs}

def Sim (σ τ : Store) : Prop := σ.Perm τ ∧ (keys σ).Nodup
theorem Sim.keys {σ τ : Store} (h : Sim σ τ) : (keys σ).Perm (keys τ) := h.1.map Prod.fst
theorem Sim.nodup {σ τ : Store} (h : Sim σ τ) : (AX.keys τ).Nodup := h.keys.nodup_iff.1 h.2
theorem Sim.symm {σ τ : Store} (h : Sim σ τ) : Sim τ σ := ⟨h.1.symm, h.nodup⟩
theorem look_iff {σ : Store} (hn : (AX.keys σ).Nodup) {b : Nat} {o : AObj} : look σ b = some o ↔ (b, o) ∈ σ := by
  refine ⟨look_mem, fun h => ?_⟩
  induction σ with
  | nil => cases h
  | cons p r ih =>
    obtain ⟨c, x⟩ := p
    have hn' : c ∉ AX.keys r ∧ (AX.keys r).Nodup := by simpa [AX.keys] using hn
    simp only [look]
    rcases List.mem_cons.1 h with h1 | h1
    · cases h1; simp
    · have : b ≠ c := fun e => hn'.1 (e ▸ List.mem_map.2 ⟨(b, o), h1, rfl⟩)
      have hb : (b == c) = false := by simpa using this
      simp only [hb, cond_false]
      exact ih hn'.2 h1
theorem Sim.look {σ τ : Store} (h : Sim σ τ) (b : Nat) : look τ b = look σ b := by
  cases hl : AX.look σ b with
  | some o => exact (look_iff h.nodup).2 (h.1.subset ((look_iff h.2).1 hl))
  | none =>
    cases hl2 : AX.look τ b with
    | none => rfl
    | some o =>
      have := (look_iff h.2).2 (h.1.symm.subset ((look_iff h.nodup).1 hl2))
      rw [hl] at this; cases this
theorem fresh_iff {b : Nat} : ∀ {σ : Store}, fresh b σ ↔ b ∉ AX.keys σ
  | [] => by simp [fresh, AX.keys]
  | (c, x) :: r => by
    simp only [fresh, AX.keys, List.map_cons, List.mem_cons, not_or]
    rw [fresh_iff (σ := r)]
    constructor
    · rintro ⟨⟨h1, h2⟩, h3⟩; exact ⟨h1, h3⟩
    · rintro ⟨h1, h3⟩; exact ⟨⟨h1, fun e => h1 e.symm⟩, h3⟩
theorem ex_fresh (σ : Store) : ∃ c, fresh c σ := by
  have key : ∀ l : List Nat, ∃ c, ∀ x ∈ l, x < c := by
    intro l
    induction l with
    | nil => exact ⟨0, by simp⟩
    | cons x l ih =>
      obtain ⟨c, hc⟩ := ih
      refine ⟨max (x + 1) c, fun y hy => ?_⟩
      rcases List.mem_cons.1 hy with rfl | hy
      · omega
      · have := hc y hy; omega
  obtain ⟨c, hc⟩ := key (AX.keys σ)
  exact ⟨c, by rw [fresh_iff]; exact fun h => by have := hc c h; omega⟩
theorem Sim.fresh {σ τ : Store} (h : Sim σ τ) {b : Nat} (hb : fresh b τ) : fresh b σ := by
  rw [fresh_iff] at *
  exact fun hk => hb (h.keys.subset hk)
theorem Sim.cons {σ τ : Store} (h : Sim σ τ) {b : Nat} {o : AObj} (hb : AX.fresh b σ) : Sim ((b, o) :: σ) ((b, o) :: τ) := by
  refine ⟨h.1.cons _, ?_⟩
  rw [fresh_iff] at hb
  simpa [AX.keys] using ⟨by simpa [AX.keys] using hb, h.2⟩
theorem setAt_map {b : Nat} {x : AObj} : ∀ {σ : Store}, (AX.keys σ).Nodup → setAt σ b x = σ.map fun p => if p.1 = b then (b, x) else p
  | [], _ => rfl
  | (c, y) :: r, hn => by
    have hn' : c ∉ AX.keys r ∧ (AX.keys r).Nodup := by simpa [AX.keys] using hn
    simp only [setAt, List.map_cons]
    by_cases hb : b = c
    · subst hb
      simp only [BEq.rfl, cond_true, if_true]
      congr 1
      have : ∀ p ∈ r, (if p.1 = b then (b, x) else p) = p := fun p hp => by
        rw [if_neg]; intro e; exact hn'.1 (e ▸ List.mem_map.2 ⟨p, hp, rfl⟩)
      rw [List.map_congr_left this]; simp
    · have h1 : (b == c) = false := by simpa using hb
      rw [if_neg (fun e => hb e.symm)]
      simp only [h1, cond_false, setAt_map hn'.2]
theorem Sim.setAt {σ τ : Store} (h : Sim σ τ) (b : Nat) (x : AObj) : Sim (setAt σ b x) (setAt τ b x) :=
  ⟨by rw [setAt_map h.2, setAt_map h.nodup]; exact h.1.map _, by rw [keys_setAt]; exact h.2⟩
theorem del_filter {b : Nat} : ∀ {σ : Store}, (AX.keys σ).Nodup → del σ b = σ.filter fun p => decide (p.1 ≠ b)
  | [], _ => rfl
  | (c, y) :: r, hn => by
    have hn' : c ∉ AX.keys r ∧ (AX.keys r).Nodup := by simpa [AX.keys] using hn
    simp only [del]
    by_cases hb : b = c
    · subst hb
      simp only [BEq.rfl, cond_true, ne_eq, not_true_eq_false, decide_false, List.filter_cons, Bool.false_eq_true, if_false]
      have : ∀ p ∈ r, decide (¬ p.1 = b) = true := fun p hp => by
        rw [decide_eq_true_eq]; intro e; exact hn'.1 (e ▸ List.mem_map.2 ⟨p, hp, rfl⟩)
      rw [List.filter_eq_self.2 this]
    · have h1 : (b == c) = false := by simpa using hb
      have h2 : decide (c ≠ b) = true := by simpa using fun e : c = b => hb e.symm
      simp only [h1, cond_false, List.filter_cons, h2, if_true, del_filter hn'.2]
theorem Sim.del {σ τ : Store} (h : Sim σ τ) (b : Nat) : Sim (del σ b) (del τ b) :=
  ⟨by rw [del_filter h.2, del_filter h.nodup]; exact h.1.filter _, h.2.sublist ((del_sublist σ b).map _)⟩
theorem rowsIn_sim {σ τ : Store} (h : Sim σ τ) (sz : Nat) (x : AV) : rowsIn τ sz x = rowsIn σ sz x := by
  unfold rowsIn
  split <;> first | rfl | (rw [h.look])
theorem newBuf_sim {σ τ : Store} (h : Sim σ τ) {own : Bool} {sz : Nat} {ys : List (List AV)} {K K' : AV → Store → Prop} (hk : ∀ r σ1 τ1, Sim σ1 τ1 → K r σ1 → K' r τ1) (hb : newBuf own sz ys σ K) : newBuf own sz ys τ K' := by
  unfold newBuf at *
  cases own with
  | true => exact fun b c rest h1 h2 h3 => hk _ _ _ (h.cons (h.fresh h1)) (hb b c rest (h.fresh h1) h2 h3)
  | false => exact fun b h1 => hk _ _ _ (h.cons (h.fresh h1)) (hb b (h.fresh h1))
theorem appendWp_sim {σ τ : Store} (h : Sim σ τ) {own : Bool} {te : TyI} {a x : AV} {K K' : AV → Store → Prop} (hk : ∀ r σ1 τ1, Sim σ1 τ1 → K r σ1 → K' r τ1) (ha : appendWp own te a x σ K) : appendWp own te a x τ K' := by
  unfold appendWp at *
  rw [rowsIn_sim h]
  split at ha
  · exact ha
  · rename_i ys hys
    split at ha
    · exact ⟨ha.1, fun e => hk _ _ _ h (ha.2.1 e), fun e => newBuf_sim h hk (ha.2.2 e)⟩
    · exact ⟨ha.1, fun e => hk _ _ _ h (ha.2.1 e), fun e => newBuf_sim h hk (ha.2.2 e)⟩
    · rename_i b sz xs
      obtain ⟨h1, ha⟩ := ha
      refine ⟨h1, ?_⟩
      rw [h.look]
      split at ha
      · rename_i n hl
        exact ⟨ha.1, ha.2.1, fun b' hb' => hk _ _ _ ((h.del b).cons ((h.del b).fresh hb')) (ha.2.2 b' ((h.del b).fresh hb'))⟩
      · exact ha
    · rename_i b n c
      rw [h.look]
      split at ha
      · rename_i cs hl
        exact ⟨ha.1, fun b' c' rest h1 h2 h3 h4 => hk _ _ _ ((h.del b).cons ((h.del b).fresh h1)) (ha.2 b' c' rest ((h.del b).fresh h1) h2 h3 h4)⟩
      · exact ha
    · exact ha
theorem CallWp.nodup {f : FuncId} {args : List AV} {σ : Store} {K : AV → Store → Prop} (h : CallWp P gl f args σ K) : CallWp P gl f args σ fun r σ' => K r σ' ∧ (AX.keys σ').Nodup :=
  ⟨h.1, fun w M vs hI hr => (h.2 w M vs hI hr).mono fun _ _ ⟨v, M', r, σ', h1, h2, h3, h4⟩ => ⟨v, M', r, σ', h1, ⟨h2, h3.inv.nodup⟩, h3, h4⟩⟩
theorem CallWp.sim {σ τ : Store} (h : Sim σ τ) {f : FuncId} {args : List AV} {K K' : AV → Store → Prop} (hk : ∀ r σ1 τ1, Sim σ1 τ1 → K r σ1 → K' r τ1) (hc : CallWp P gl f args σ K) : CallWp P gl f args τ K' :=
  CallWp.perm h.1 (hc.nodup.mono fun r σ' ⟨h1, h2⟩ => hk r σ' σ' ⟨.refl _, h2⟩ h1)
theorem CallWp.post0 {σ τ : Store} {f : FuncId} {args : List AV} {r : AV} (h : CallWp P gl f args τ fun x σ' => x = r ∧ σ' = σ) (hp : σ.Perm τ) : CallWp P gl f args τ fun x σ' => x = r ∧ σ' = τ :=
  ⟨h.1, fun w M vs hI hr => (h.2 w M vs hI hr).mono fun _ _ ⟨v, M', x, σ', h1, ⟨hx, hs⟩, h3, h4⟩ => by
    subst hx hs
    exact ⟨v, M', x, τ, h1, ⟨rfl, rfl⟩, h3.perm hp.symm, h4⟩⟩
theorem opD_sim {own cst : Bool} {op : Op} {ρ : Env} {σ τ : Store} {K K' : AV → Store → Prop} (hs : Sim σ τ) (hk : ∀ r σ1 τ1, Sim σ1 τ1 → K r σ1 → K' r τ1) (h : opD P gl own cst op ρ σ K) : opD P gl own cst op ρ τ K' := by
  cases hc : clsOp own cst op with
  | I => obtain ⟨r, h1, h2⟩ := opD_I hc h; exact h1 τ K' (hk r σ τ hs h2)
  | N => obtain ⟨o, f, h1, h2⟩ := opD_N hc h; exact h1 τ K' fun b hb => hk _ _ _ (hs.cons (hs.fresh hb)) (h2 σ K h b (hs.fresh hb))
  | R =>
    cases op <;> simp only [clsOp, reduceCtorEq] at hc
    case load t x =>
      cases cst with
      | true => simp at hc
      | false =>
        unfold opD at h ⊢
        simp only at h ⊢
        split at h
        · rename_i ti ht
          simp only [cond_false] at h ⊢
          unfold loadWp at h ⊢
          split at h
          · exact ⟨h.1, hk _ _ _ hs h.2⟩
          · rw [hs.look]
            split at h
            · exact ⟨h.1, hk _ _ _ hs h.2⟩
            · exact ⟨h.1, hk _ _ _ hs h.2⟩
            · exact h
          · exact h
        · exact h
    case call c =>
      unfold opD at h ⊢
      simp only at h ⊢
      split at h
      · rename_i b hb
        exfalso
        cases b <;> simp [hb] at hc
      · rename_i f hf
        cases own with
        | false => simp [hf] at hc
        | true =>
          cases cst with
          | true => simp [hf] at hc
          | false =>
            simp only [cond_true, cond_false] at h ⊢
            split at h
            · obtain ⟨r, h1, h2⟩ := h
              refine ⟨r, ?_, hk _ _ _ hs h2⟩
              exact CallWp.post0 (CallWp.perm hs.1 h1) hs.1
            · exact h
      · exact h
    all_goals (exfalso; revert hc; first | (cases own <;> simp; done) | (cases cst <;> simp; done) | (split <;> first | (simp; done) | (cases own <;> simp; done) | (cases own <;> cases cst <;> simp; done)))
  | D =>
    cases op <;> simp only [clsOp, reduceCtorEq] at hc
    case store t x y =>
      unfold opD opWp at h ⊢
      simp only at h ⊢
      split at h
      · rename_i ti ht
        unfold storeWp at h ⊢
        split at h
        · rename_i b o c hx hcc
          rw [hs.look]
          split at h
          · exact ⟨h.1, hk _ _ _ (hs.setAt _ _) h.2⟩
          · exact h
        · exact h
      · exact h
    all_goals (exfalso; revert hc; first | (cases own <;> simp; done) | (cases cst <;> simp; done) | (split <;> first | (simp; done) | (cases own <;> simp; done) | (cases own <;> cases cst <;> simp; done)))
  | A =>
    cases op <;> simp only [clsOp, reduceCtorEq] at hc
    case call c =>
      unfold opD at h ⊢
      simp only at h ⊢
      split at h
      · rename_i b hb
        unfold builtinWp at h ⊢
        split at h
        · exfalso; rename_i hts _; simp [hb] at hc
        · split at h
          · split at h
            · split at h
              · exact appendWp_sim hs hk h
              · exact h
            · split at h
              · exact appendWp_sim hs hk h
              · exact h
            · exact h
          · exact h
        · split at h
          · split at h
            · split at h
              · rw [hs.look]
                split at h
                · exact ⟨h.1, hk _ _ _ (hs.setAt _ _) h.2⟩
                · exact h
              · exact h
            · exact h
          · exact h
        · exact h
      · rename_i f hf
        cases own with
        | false => simp [hf] at hc
        | true =>
          cases cst with
          | false => simp [hf] at hc
          | true =>
            simp only [cond_true] at h ⊢
            split at h
            · exact CallWp.sim hs hk h
            · exact h
      · exact h
    all_goals first | exact h.elim | (exfalso; revert hc; first | (cases own <;> simp; done) | (cases cst <;> simp; done) | (split <;> first | (simp; done) | (cases own <;> simp; done) | (cases own <;> cases cst <;> simp; done)))
theorem opD_nodup {own cst : Bool} {op : Op} {ρ : Env} {σ : Store} {K : AV → Store → Prop} (hn : (AX.keys σ).Nodup) (hK : ∀ r σ1 τ1, Sim σ1 τ1 → K r σ1 → K r τ1) (h : opD P gl own cst op ρ σ K) : opD P gl own cst op ρ σ fun r σ' => K r σ' ∧ (AX.keys σ').Nodup :=
  opD_sim ⟨.refl _, hn⟩ (fun _ _ _ hs hk => ⟨hK _ _ _ hs hk, hs.nodup⟩) h
end
end Go.AX
end
section
/- Regions whose order is drawn, continued: operations that lie apart change places. -/
namespace Go.AX
open Go

section
variable {P : Program} {gl : Globs}

def EqE (ρ ρ' : Env) : Prop := ∀ i, get ρ i = get ρ' i
def Exl (F : Env → Store → Prop) : Prop := ∀ ρ ρ' σ, EqE ρ ρ' → F ρ σ → F ρ' σ
theorem EqE.put {ρ ρ' : Env} (h : EqE ρ ρ') (d : Option Nat) (v : AV) : EqE (put ρ d v) (put ρ' d v) := by
  cases d with
  | none => exact h
  | some d => intro i; simp only [AX.put, get]; rw [h i]
theorem EqE.symm {ρ ρ' : Env} (h : EqE ρ ρ') : EqE ρ' ρ := fun i => (h i).symm
theorem put_comm {ρ : Env} {d e : Option Nat} (h : ∀ x, d = some x → e ≠ some x) (u v : AV) : EqE (put (put ρ d u) e v) (put (put ρ e v) d u) := by
  intro i
  cases d with
  | none => rfl
  | some d =>
    cases e with
    | none => rfl
    | some e =>
      have hne : d ≠ e := fun he => h d rfl (he ▸ rfl)
      simp only [put, get]
      by_cases h1 : i = e
      · have h2 : (i == d) = false := by simpa using fun he : i = d => hne (he.symm.trans h1)
        have h3 : (i == e) = true := by simpa using h1
        simp [h2, h3]
      · have h3 : (i == e) = false := by simpa using h1
        simp [h3]
theorem ev_eqE {ρ ρ' : Env} (h : EqE ρ ρ') (x : Operand) : ev gl ρ x = ev gl ρ' x := by
  cases x <;> simp only [ev]
  exact h _
theorem get_put_ne {ρ : Env} {d : Option Nat} {v : AV} {t : Nat} (h : d ≠ some t) : get (put ρ d v) t = get ρ t := by
  cases d with
  | none => rfl
  | some d =>
    have : (t == d) = false := by simpa using fun he : t = d => h (by rw [he])
    simp only [put, get, this, cond_false]

def want (all : List Oper) (o : Oper) (ρ : Env) : Option Bool :=
  match o.guard with
  | none => some true
  | some (g, p) => match (all[g]?).bind (·.dst) with
    | some t => match get ρ t with
      | .raw (.bool q) => some (q == p)
      | .tup [] => some false
      | _ => none
    | none => none
variable (P gl)
def stepE (cf : Cfg) (all : List Oper) (o : Oper) (ρ : Env) (σ : Store) (K : Env → Store → Prop) : Prop := (AX.keys σ).Nodup → dstOk cf o.dst = true ∧
  match want all o ρ with
  | some true => opD P gl (ownAt cf o.dst) (cstAt cf o.op) o.op ρ σ fun v σ => K (put ρ o.dst v) σ
  | some false => K (put ρ o.dst (.tup [])) σ
  | none => False
variable {P gl}

theorem want_eqE {all : List Oper} {o : Oper} {ρ ρ' : Env} (h : EqE ρ ρ') : want all o ρ = want all o ρ' := by
  unfold want
  split
  · rfl
  · split
    · rw [h]
    · rfl
theorem stepE_exl {cf : Cfg} {all : List Oper} {o : Oper} {K : Env → Store → Prop} (hK : Exl K) : Exl fun ρ σ => stepE P gl cf all o ρ σ K := by
  intro ρ ρ' σ h hs
  unfold stepE at *
  intro hn
  replace hs := hs hn
  rw [← want_eqE h]
  refine ⟨hs.1, ?_⟩
  have h2 := hs.2
  split at h2
  · rw [← opD_congr (ρ := ρ) fun x _ => ev_eqE h x]
    exact opD_mono h2 fun r σ' hk => hK _ _ _ (h.put _ _) hk
  · exact hK _ _ _ (h.put _ _) h2
  · exact h2
theorem stepE_mono {cf : Cfg} {all : List Oper} {o : Oper} {ρ : Env} {σ : Store} {K K' : Env → Store → Prop} (h : stepE P gl cf all o ρ σ K) (hk : ∀ ρ σ, K ρ σ → K' ρ σ) : stepE P gl cf all o ρ σ K' := by
  unfold stepE at *
  intro hn
  replace h := h hn
  refine ⟨h.1, ?_⟩
  have h2 := h.2
  split at h2
  · exact opD_mono h2 fun r σ' => hk _ _
  · exact hk _ _ h2
  · exact h2

/-- The order of the store's entries does not count. -/
def Sml (F : Env → Store → Prop) : Prop := ∀ ρ σ τ, Sim σ τ → F ρ σ → F ρ τ
theorem stepE_sml {cf : Cfg} {all : List Oper} {o : Oper} {K : Env → Store → Prop} (hK : Sml K) : Sml fun ρ σ => stepE P gl cf all o ρ σ K := by
  intro ρ σ τ hs h
  unfold stepE at *
  intro _
  replace h := h hs.2
  refine ⟨h.1, ?_⟩
  have h2 := h.2
  split at h2
  · exact opD_sim hs (fun r σ1 τ1 h3 h4 => hK _ _ _ h3 h4) h2
  · exact hK _ _ _ hs h2
  · exact h2
def compat : Cls → Cls → Bool
  | .A, .I => false
  | .N, .I => false
  | _, .I => true
  | .I, _ => true
  | .R, .R => true
  | .R, .N => true
  | .D, .N => true
  | .N, .N => true
  | _, _ => false
/-- Reading is the same beside a new block. -/
theorem opD_R_cons {own cst : Bool} {op : Op} {ρ : Env} {σ : Store} {r : AV} {b : Nat} {o : AObj} (hc : clsOp own cst op = .R) (hb : fresh b σ) (h : ∀ K2 : AV → Store → Prop, K2 r σ → opD P gl own cst op ρ σ K2) (K3 : AV → Store → Prop) (h3 : K3 r ((b, o) :: σ)) : opD P gl own cst op ρ ((b, o) :: σ) K3 := by
  have hl : ∀ k x, look σ k = some x → look ((b, o) :: σ) k = some x := fun k x hk => by
    have : k ≠ b := by
      intro e; subst e
      rw [fresh_iff] at hb
      exact hb (List.mem_map.2 ⟨_, look_mem hk, rfl⟩)
    have : (k == b) = false := by simpa using this
    simp only [look, this, cond_false]; exact hk
  have h0 := h (fun x σ' => x = r ∧ σ' = σ) ⟨rfl, rfl⟩
  cases op <;> simp only [clsOp, reduceCtorEq] at hc
  case load t x =>
    cases cst with
    | true => simp at hc
    | false =>
      unfold opD at h0 ⊢
      simp only at h0 ⊢
      split at h0
      · rename_i ti ht
        simp only [cond_false] at h0 ⊢
        unfold loadWp at h0 ⊢
        split at h0
        · obtain ⟨h1, h2, _⟩ := h0
          exact ⟨h1, by rw [h2]; exact h3⟩
        · split at h0
          · rename_i cs hk
            rw [hl _ _ hk]
            obtain ⟨h1, h2, _⟩ := h0
            exact ⟨h1, by rw [h2]; exact h3⟩
          · rename_i cs hk
            rw [hl _ _ hk]
            obtain ⟨h1, h2, _⟩ := h0
            exact ⟨h1, by rw [h2]; exact h3⟩
          · exact h0.elim
        · exact h0.elim
      · exact h0.elim
  case call c =>
    unfold opD at h0 ⊢
    simp only at h0 ⊢
    split at h0
    · rename_i bb hbb
      exfalso
      cases bb <;> simp [hbb] at hc
    · rename_i f hf
      cases own with
      | false => simp [hf] at hc
      | true =>
        cases cst with
        | true => simp [hf] at hc
        | false =>
          simp only [cond_true, cond_false] at h0 ⊢
          split at h0
          · obtain ⟨r', h1, h2, _⟩ := h0
            subst h2
            refine ⟨r', ?_, h3⟩
            refine CallWp.post0 (σ := σ ++ [(b, o)]) (CallWp.perm (List.perm_append_singleton (b, o) σ) (CallWp.frame (h1.mono fun x σ' ⟨hx, hs⟩ => ⟨hx, by rw [hs]⟩))) (List.perm_append_singleton (b, o) σ)
          · exact h0.elim
    · exact h0.elim
  all_goals (exfalso; revert hc; first | (cases own <;> simp; done) | (cases cst <;> simp; done) | (split <;> first | (simp; done) | (cases own <;> simp; done) | (cases own <;> cases cst <;> simp; done)))
/-- So is a store. -/
theorem opD_D_cons {own cst : Bool} {op : Op} {ρ : Env} {σ : Store} {K : AV → Store → Prop} (hc : clsOp own cst op = .D) (h : opD P gl own cst op ρ σ K) :
    ∃ σ', (∀ b, fresh b σ → fresh b σ') ∧ K .top σ' ∧ ∀ b o, fresh b σ → ∀ K3 : AV → Store → Prop, K3 .top ((b, o) :: σ') → opD P gl own cst op ρ ((b, o) :: σ) K3 := by
  cases op <;> simp only [clsOp, reduceCtorEq] at hc
  case store t x y =>
    unfold opD opWp at h
    simp only at h
    split at h
    · rename_i ti ht
      unfold storeWp at h
      split at h
      · rename_i k p c hx hcc
        split at h
        · rename_i cs hl
          refine ⟨_, fun b hb => ?_, h.2, fun b o hb K3 h3 => ?_⟩
          · rw [fresh_iff] at *; rw [keys_setAt]; exact hb
          · have hne : k ≠ b := by
              intro e; subst e
              rw [fresh_iff] at hb
              exact hb (List.mem_map.2 ⟨_, look_mem hl, rfl⟩)
            have hkb : (k == b) = false := by simpa using hne
            unfold opD opWp
            simp only [ht]
            unfold storeWp
            simp only [hx, hcc, look, hkb, cond_false, hl, setAt]
            exact ⟨h.1, h3⟩
        · cases h
      · cases h
    · cases h
  all_goals (exfalso; revert hc; first | (cases own <;> simp; done) | (cases cst <;> simp; done) | (split <;> first | (simp; done) | (cases own <;> simp; done) | (cases own <;> cases cst <;> simp; done)))
theorem opD_swap {a a' b b' : Bool} {k j : Op} {ρ : Env} {σ : Store} {G : AV → AV → Store → Prop} (hn : (AX.keys σ).Nodup) (hG : ∀ v u σ τ, Sim σ τ → G v u σ → G v u τ) (hc : compat (clsOp a a' k) (clsOp b b' j) = true)
    (h : opD P gl a a' k ρ σ fun v σ1 => opD P gl b b' j ρ σ1 fun u σ2 => G v u σ2) : opD P gl b b' j ρ σ fun u σ1 => opD P gl a a' k ρ σ1 fun v σ2 => G v u σ2 := by
  cases hj : clsOp b b' j <;> cases hk : clsOp a a' k <;> rw [hj, hk] at hc <;> first | (simp [compat] at hc; done) | skip
  · obtain ⟨r, h1, h2⟩ := opD_I hk h
    obtain ⟨u, h3, h4⟩ := opD_I hj h2
    exact h3 σ _ (h1 σ _ h4)
  · obtain ⟨r, h1, h2⟩ := opD_R hk h
    obtain ⟨u, h3, h4⟩ := opD_I hj h2
    exact h3 σ _ (h1 _ h4)
  · obtain ⟨s, h1, h2⟩ := opD_D hk h
    obtain ⟨u, h3, h4⟩ := opD_I hj h2
    exact h3 σ _ (h1 _ h4)
  · obtain ⟨r, h1, h2⟩ := opD_I hk h
    obtain ⟨u, h3, h4⟩ := opD_R hj h2
    exact h3 _ (h1 σ _ h4)
  · obtain ⟨r, h1, h2⟩ := opD_R hk h
    obtain ⟨u, h3, h4⟩ := opD_R hj h2
    exact h3 _ (h1 _ h4)
  · obtain ⟨r, h1, h2⟩ := opD_I hk h
    obtain ⟨s, h3, h4⟩ := opD_D hj h2
    exact h3 _ (h1 s _ h4)
  · obtain ⟨r, h1, h2⟩ := opD_I hk h
    exact opD_A hj h2 fun u σ1 hG => h1 σ1 _ hG
  · obtain ⟨r, h1, h2⟩ := opD_I hk h
    exact opD_mono h2 fun u σ1 hG => h1 σ1 _ hG
  · obtain ⟨r, h1, h2⟩ := opD_R hk h
    obtain ⟨o, f, h3, h4⟩ := opD_N hj h2
    exact h3 _ _ fun c hc => opD_R_cons hk hc h1 _ (h4 _ _ h2 c hc)
  · obtain ⟨s, hf, h2, h1⟩ := opD_D_cons hk h
    obtain ⟨o, f, h3, h4⟩ := opD_N hj h2
    exact h3 _ _ fun c hc => h1 c o hc _ (h4 _ _ h2 c (hf c hc))
  · obtain ⟨o, f, h1, h2⟩ := opD_N hk h
    obtain ⟨c0, hc0⟩ := ex_fresh σ
    obtain ⟨o2, f2, h3, h4⟩ := opD_N hj (h2 _ _ h c0 hc0)
    refine h3 _ _ fun c2 hc2 => h1 _ _ fun c1 hc1 => ?_
    have hc1' : fresh c1 σ := by rw [fresh_iff] at *; exact fun h => hc1 (by simp only [AX.keys, List.map_cons, List.mem_cons]; exact .inr h)
    have hne : c2 ≠ c1 := fun e => by rw [fresh_iff] at hc1; exact hc1 (by simp [AX.keys, e])
    have hc2' : fresh c2 ((c1, o) :: σ) := ⟨⟨hne, fun e => hne e.symm⟩, hc2⟩
    have h5 := h4 _ _ (h2 _ _ h c1 hc1') c2 hc2'
    refine hG _ _ _ _ ⟨List.Perm.swap _ _ _, ?_⟩ h5
    rw [fresh_iff] at hc2' hc1'
    simp only [AX.keys, List.map_cons, List.nodup_cons] at hc2' hc1' hn ⊢
    exact ⟨hc2', hc1', hn⟩
theorem eqEv_put {all : List Oper} {o : Oper} {ρ : Env} {d : Option Nat} {v : AV} (h : ∀ x, d = some x → x ∉ o.looksAt all.toArray) : EqEv gl (put ρ d v) ρ o.op.operands.toList := by
  intro x hx
  cases x with
  | tmp t =>
    simp only [ev]
    refine get_put_ne fun hd => h t hd ?_
    unfold Oper.looksAt
    exact List.mem_append.2 (.inl (List.mem_filterMap.2 ⟨.tmp t, hx, rfl⟩))
  | _ => rfl
theorem want_put {all : List Oper} {o : Oper} {ρ : Env} {d : Option Nat} {v : AV} (h : ∀ x, d = some x → x ∉ o.looksAt all.toArray) : want all o (put ρ d v) = want all o ρ := by
  unfold want
  cases hg : o.guard with
  | none => rfl
  | some gp =>
    obtain ⟨g, p⟩ := gp
    simp only
    cases ht : (all[g]?).bind (·.dst) with
    | none => rfl
    | some t =>
      have : get (put ρ d v) t = get ρ t := get_put_ne fun hd => h t hd (by
        unfold Oper.looksAt
        refine List.mem_append.2 (.inr ?_)
        simp only [hg]
        have : (all.toArray[g]?).bind (·.dst) = some t := by simpa using ht
        rw [this]; simp)
      simp only [this]

theorem opD_some {a a' : Bool} {k : Op} {ρ : Env} {σ : Store} {K : AV → Store → Prop} (hc : clsOp a a' k ≠ .A) (h : opD P gl a a' k ρ σ K) : ∃ r σ', K r σ' := by
  cases hk : clsOp a a' k with
  | I => obtain ⟨r, _, h2⟩ := opD_I hk h; exact ⟨_, _, h2⟩
  | R => obtain ⟨r, _, h2⟩ := opD_R hk h; exact ⟨_, _, h2⟩
  | D => obtain ⟨r, _, h2⟩ := opD_D hk h; exact ⟨_, _, h2⟩
  | A => exact absurd hk hc
  | N => obtain ⟨o, f, _, h2⟩ := opD_N hk h; obtain ⟨b, hb⟩ := ex_fresh σ; exact ⟨_, _, h2 σ K h b hb⟩
theorem stepE_swap {cf : Cfg} {all : List Oper} {k j : Oper} {ρ : Env} {σ : Store} {F : Env → Store → Prop} (hF : Exl F) (hS : Sml F) (hap : k.apart all.toArray j = true) (hc : compat (cls cf k) (cls cf j) = true) (hdj : dstOk cf j.dst = true)
    (h : stepE P gl cf all k ρ σ fun ρ1 σ1 => stepE P gl cf all j ρ1 σ1 F) : stepE P gl cf all j ρ σ fun ρ1 σ1 => stepE P gl cf all k ρ1 σ1 F := by
  obtain ⟨a1, a2, a3⟩ := Oper.apart_spec hap
  have comm : ∀ (ρ : Env) (u v : AV) σ, F (put (put ρ k.dst v) j.dst u) σ → F (put (put ρ j.dst u) k.dst v) σ := fun ρ u v σ => hF _ _ _ (put_comm a2 v u)
  have hkA : clsOp (ownAt cf k.dst) (cstAt cf k.op) k.op ≠ .A := fun he => by
    unfold cls at hc
    rw [he] at hc
    cases hx : clsOp (ownAt cf j.dst) (cstAt cf j.op) j.op <;> rw [hx] at hc <;> simp [compat] at hc
  intro hn
  obtain ⟨hd, h⟩ := h hn
  have wj : ∀ v, want all j (put ρ k.dst v) = want all j ρ := fun v => want_put a1
  have wk : ∀ v, want all k (put ρ j.dst v) = want all k ρ := fun v => want_put a3
  have ej : ∀ v σ K, opD P gl (ownAt cf j.dst) (cstAt cf j.op) j.op (put ρ k.dst v) σ K = opD P gl (ownAt cf j.dst) (cstAt cf j.op) j.op ρ σ K := fun v σ K => opD_congr (eqEv_put a1) σ K
  have ek : ∀ v σ K, opD P gl (ownAt cf k.dst) (cstAt cf k.op) k.op (put ρ j.dst v) σ K = opD P gl (ownAt cf k.dst) (cstAt cf k.op) k.op ρ σ K := fun v σ K => opD_congr (eqEv_put a3) σ K
  refine ⟨hdj, ?_⟩
  cases hk : want all k ρ with
  | none => rw [hk] at h; exact h.elim
  | some bk =>
    cases bk with
    | false =>
      rw [hk] at h
      simp only at h
      obtain ⟨_, h⟩ := h hn
      rw [wj] at h
      cases hj : want all j ρ with
      | none => rw [hj] at h; exact h.elim
      | some bj =>
        rw [hj] at h
        cases bj with
        | false => simp only at h ⊢; exact fun _ => ⟨hd, by rw [wk, hk]; exact comm _ _ _ _ h⟩
        | true =>
          simp only at h ⊢
          rw [ej] at h
          exact opD_mono h fun u σ1 hu _ => ⟨hd, by rw [wk, hk]; exact comm _ _ _ _ hu⟩
    | true =>
      rw [hk] at h
      simp only at h
      replace h := opD_mono (opD_nodup (K := fun v σ1 => stepE P gl cf all j (put ρ k.dst v) σ1 F) hn (fun r σ1 τ1 hs hv => stepE_sml hS (put ρ k.dst r) σ1 τ1 hs hv) h) fun v σ1 hv => hv.1 hv.2
      cases hj : want all j ρ with
      | none =>
        obtain ⟨v, σ', hv⟩ := opD_some hkA h
        rw [wj, hj] at hv
        exact hv.2
      | some bj =>
        cases bj with
        | false =>
          simp only
          refine fun _ => ⟨hd, ?_⟩
          rw [wk, hk]
          simp only
          rw [ek]
          exact opD_mono h fun v σ1 hv => by
            rw [wj, hj] at hv
            exact comm _ _ _ _ hv.2
        | true =>
          simp only
          have h2 : opD P gl (ownAt cf k.dst) (cstAt cf k.op) k.op ρ σ fun v σ1 => opD P gl (ownAt cf j.dst) (cstAt cf j.op) j.op ρ σ1 fun u σ2 => F (put (put ρ k.dst v) j.dst u) σ2 := opD_mono h fun v σ1 hv => by
            rw [wj, hj] at hv
            have := hv.2
            simp only at this
            rw [ej] at this
            exact this
          refine opD_mono (opD_swap (G := fun v u σ2 => F (put (put ρ k.dst v) j.dst u) σ2) hn (fun v u σ τ hs hg => hS (put (put ρ k.dst v) j.dst u) σ τ hs hg) hc h2) fun u σ1 hu _ => ⟨hd, ?_⟩
          rw [wk, hk]
          simp only
          rw [ek]
          exact opD_mono hu fun v σ2 hF' => comm _ _ _ _ hF'

/-! ### Orders -/
variable (P gl)
def ordE (cf : Cfg) (all : List Oper) : List Nat → Env → Store → (Env → Store → Prop) → Prop
  | [], ρ, σ, K => K ρ σ
  | i :: r, ρ, σ, K => match all[i]? with
    | none => False
    | some o => stepE P gl cf all o ρ σ fun ρ σ => ordE cf all r ρ σ K
variable {P gl}
theorem ordE_exl {cf : Cfg} {all : List Oper} {K : Env → Store → Prop} (hK : Exl K) : ∀ l : List Nat, Exl fun ρ σ => ordE P gl cf all l ρ σ K
  | [] => hK
  | i :: r => by
    intro ρ ρ' σ h hs
    simp only [ordE] at hs ⊢
    cases hi : all[i]? with
    | none => rw [hi] at hs; exact hs
    | some o => rw [hi] at hs; exact stepE_exl (ordE_exl hK r) ρ ρ' σ h hs

theorem ordE_sml {cf : Cfg} {all : List Oper} {K : Env → Store → Prop} (hK : Sml K) : ∀ l : List Nat, Sml fun ρ σ => ordE P gl cf all l ρ σ K
  | [] => hK
  | i :: r => by
    intro ρ σ τ h hs
    simp only [ordE] at hs ⊢
    cases hi : all[i]? with
    | none => rw [hi] at hs; exact hs
    | some o => rw [hi] at hs; exact stepE_sml (ordE_sml hK r) ρ σ τ h hs
theorem ordE_mono {cf : Cfg} {all : List Oper} {K K' : Env → Store → Prop} (hk : ∀ ρ σ, K ρ σ → K' ρ σ) : ∀ (l : List Nat) (ρ : Env) (σ : Store), ordE P gl cf all l ρ σ K → ordE P gl cf all l ρ σ K'
  | [], _, _, h => hk _ _ h
  | i :: r, ρ, σ, h => by
    simp only [ordE] at h ⊢
    cases hi : all[i]? with
    | none => rw [hi] at h; exact h
    | some o => rw [hi] at h; exact stepE_mono h fun ρ1 σ1 h1 => ordE_mono hk r ρ1 σ1 h1

/-- k before j in the order that is served: they may change places. -/
def free (cf : Cfg) (all : List Oper) (k j : Nat) : Bool :=
  match all[k]?, all[j]? with
  | some ok, some oj => ok.apart all.toArray oj && compat (cls cf ok) (cls cf oj)
  | _, _ => false
theorem ordE_front {cf : Cfg} {all : List Oper} {K : Env → Store → Prop} (hK : Exl K) (hS : Sml K) {j : Nat} {oj : Oper} (hj : all[j]? = some oj) (hd : dstOk cf oj.dst = true) : ∀ (l1 l2 : List Nat) (ρ : Env) (σ : Store), (∀ k ∈ l1, free cf all k j = true) →
    ordE P gl cf all (l1 ++ j :: l2) ρ σ K → stepE P gl cf all oj ρ σ fun ρ σ => ordE P gl cf all (l1 ++ l2) ρ σ K
  | [], l2, ρ, σ, _, h => by simpa only [List.nil_append, ordE, hj] using h
  | k :: l1, l2, ρ, σ, hf, h => by
    simp only [List.cons_append, ordE] at h ⊢
    have hfk := hf k (by simp)
    unfold free at hfk
    cases hk : all[k]? with
    | none => rw [hk] at h; exact h.elim
    | some ok =>
      rw [hk, hj] at hfk
      simp only [Bool.and_eq_true] at hfk
      rw [hk] at h
      simp only at h ⊢
      have h2 : stepE P gl cf all ok ρ σ fun ρ1 σ1 => stepE P gl cf all oj ρ1 σ1 fun ρ σ => ordE P gl cf all (l1 ++ l2) ρ σ K :=
        stepE_mono h fun ρ1 σ1 h1 => ordE_front hK hS hj hd l1 l2 ρ1 σ1 (fun k hk => hf k (List.mem_cons_of_mem _ hk)) h1
      exact stepE_swap (ordE_exl hK _) (ordE_sml hS _) hfk.1 hfk.2 hd h2

/-- j waits for k, at however many removes. -/
def waits (all : List Oper) : Nat → Nat → Nat → Bool
  | 0, _, _ => false
  | n + 1, j, k => match all[j]? with
    | none => false
    | some o => o.after.toList.any fun e => Region.binds .any e && (e.on == k || waits all n e.on k)
def pairsOk (cf : Cfg) (all : List Oper) : List Nat → Bool
  | [] => true
  | k :: r => r.all (fun j => waits all all.length j k || free cf all k j) && pairsOk cf all r
/-- every binding edge of an operation leads to one that stands before it. -/
def topoOk (all : List Oper) : List Nat → List Nat → Bool
  | _, [] => true
  | seen, i :: r => (match all[i]? with
    | none => false
    | some o => o.after.toList.all fun e => !Region.binds .any e || seen.contains e.on) && topoOk all (i :: seen) r
def noDup : List Nat → Bool
  | [] => true
  | x :: r => !r.contains x && noDup r
theorem noDup_spec : ∀ {l : List Nat}, noDup l = true → l.Nodup
  | [], _ => List.nodup_nil
  | x :: r, h => by
    simp only [noDup, Bool.and_eq_true, Bool.not_eq_true', List.contains_eq_mem, decide_eq_false_iff_not] at h
    exact List.nodup_cons.2 ⟨h.1, noDup_spec h.2⟩
def ordOk (cf : Cfg) (all : List Oper) (l : List Nat) : Bool :=
  l.length == all.length && (List.range all.length).all (fun i => l.contains i) && noDup l && l.all (fun i => decide (i < all.length)) && pairsOk cf all l && topoOk all [] l && all.all fun o => dstOk cf o.dst

theorem pairsOk_at {cf : Cfg} {all : List Oper} : ∀ {l1 l2 : List Nat} {j : Nat}, pairsOk cf all (l1 ++ j :: l2) = true → ∀ k ∈ l1, waits all all.length j k = true ∨ free cf all k j = true
  | [], _, _, _, _, hk => by cases hk
  | x :: l1, l2, j, h, k, hk => by
    simp only [List.cons_append, pairsOk, Bool.and_eq_true, List.all_eq_true] at h
    rcases List.mem_cons.1 hk with rfl | hk
    · simpa using h.1 j (by simp)
    · exact pairsOk_at h.2 k hk
theorem pairsOk_drop {cf : Cfg} {all : List Oper} : ∀ {l1 l2 : List Nat} {j : Nat}, pairsOk cf all (l1 ++ j :: l2) = true → pairsOk cf all (l1 ++ l2) = true
  | [], l2, j, h => by simp only [List.nil_append, pairsOk, Bool.and_eq_true] at h ⊢; exact h.2
  | x :: l1, l2, j, h => by
    simp only [List.cons_append, pairsOk, Bool.and_eq_true, List.all_eq_true] at h ⊢
    exact ⟨fun y hy => h.1 y (by simp at hy ⊢; rcases hy with hy | hy <;> simp [hy]), pairsOk_drop h.2⟩

/-- What has come up is closed under what it waited for. -/
def Closed (all : List Oper) (listed : Array Bool) : Prop := ∀ (m : Nat) (o : Oper), all[m]? = some o → listed.getD m false = true → ∀ e ∈ o.after.toList, Region.binds .any e = true → listed.getD e.on false = true
theorem waits_listed {all : List Oper} {listed : Array Bool} (hc : Closed all listed) : ∀ (n j k : Nat) (o : Oper), all[j]? = some o → (∀ e ∈ o.after.toList, Region.binds .any e = true → listed.getD e.on false = true) → waits all n j k = true → listed.getD k false = true
  | 0, _, _, _, _, _, h => by simp [waits] at h
  | n + 1, j, k, o, hj, hl, h => by
    simp only [waits, hj, List.any_eq_true, Bool.and_eq_true, Bool.or_eq_true, beq_iff_eq] at h
    obtain ⟨e, he, hb, hk⟩ := h
    have h1 := hl e he hb
    rcases hk with rfl | hk
    · exact h1
    · cases hm : all[e.on]? with
      | none =>
        cases n with
        | zero => simp [waits] at hk
        | succ n => simp [waits, hm] at hk
      | some o2 => exact waits_listed hc n e.on k o2 hm (fun e2 h2 h3 => hc e.on o2 hm h1 e2 h2 h3) hk
theorem stepE_sound {cf : Cfg} {ops : Array Oper} {j : Nat} {o : Oper} {Q : Exit → Act → World → Prop} {N : Act → World → Prop} {F : Env → Store → Prop} {ρ : Env} {σ : Store} {w : World} {M : Marks} {a : Act} (hj : ops[j]? = some o)
    (hI : Inv gl w M σ) (hF : Fits cf w M ρ a) (h : stepE P gl cf ops.toList o ρ σ F) (hN : ∀ ρ' σ' w' M' a', F ρ' σ' → Stp gl w M σ w' M' σ' → Fits cf w' M' ρ' a' → N a' w') : wpOp P ops Q j N a w := by
  unfold wpOp
  simp only [hj]
  obtain ⟨hd, h⟩ := h hI.nodup
  have key : ∀ b, want ops.toList o ρ = some b → Region.wanted o (yielded ops a.tmps) = b := by
    intro b hb
    unfold want at hb
    unfold Region.wanted
    cases hg : o.guard with
    | none => rw [hg] at hb; simpa using hb
    | some gp =>
      obtain ⟨g, p⟩ := gp
      rw [hg] at hb
      simp only at hb ⊢
      split at hb
      · rename_i t ht
        split at hb
        · rename_i q hq
          have ht' : (ops[g]?).bind (·.dst) = some t := by simpa using ht
          have hy : yielded ops a.tmps g = some q := by simp [yielded, ht', hF.bool hq]
          rw [hy]
          simp only [Option.some.injEq] at hb
          rw [← hb]
          cases q <;> cases p <;> rfl
        · rename_i hq
          have hv := hF.1 t
          rw [hq] at hv
          simp only [rep] at hv
          obtain ⟨vs, hv, hvs⟩ := hv
          simp only [repAll] at hvs
          subst hvs
          have ht' : (ops[g]?).bind (·.dst) = some t := by simpa using ht
          have hy : yielded ops a.tmps g = none := by
            simp only [yielded, ht', Option.bind_some]
            rw [Array.getD_eq_getD_getElem?] at hv
            cases hx : a.tmps[t]? with
            | none => rfl
            | some v => rw [hx] at hv; simp only [Option.getD_some] at hv; rw [hv]
          rw [hy]
          simp only [Option.some.injEq] at hb
          rw [← hb]
          rfl
        · cases hb
      · cases hb
  cases hw : want ops.toList o ρ with
  | none => rw [hw] at h; exact h.elim
  | some b =>
    rw [hw] at h
    have hb := key b hw
    cases b with
    | true =>
      rw [if_pos hb]
      exact .inl (opWp_sound hI hF (opD_opWp h) _ _ fun v w' M' r σ' hK hs hv => hN _ _ _ _ _ hK hs ((hF.keeps hs.ext.keeps).put hd hv))
    | false =>
      rw [if_neg (by rw [hb]; simp)]
      exact hN _ _ _ _ _ h (Stp.refl hI) (hF.put hd (by simp [rep, repAll, undef]))

theorem wpAny_of_ord {cf : Cfg} {ops : Array Oper} {Q : Exit → Act → World → Prop} {K : Env → Store → Prop} (hK : Exl K) (hSm : Sml K) (hd : ∀ o ∈ ops.toList, dstOk cf o.dst = true) {w0 M0 σ0}
    (hQ : ∀ ρ σ w M a, K ρ σ → Stp gl w0 M0 σ0 w M σ → Fits cf w M ρ a → Q .normal a w) :
    ∀ (n : Nat) (l : List Nat) (listed : Array Bool) (ρ : Env) (σ : Store) (w : World) (M : Marks) (a : Act), l.length = n → l.Nodup → listed.size = ops.size → (∀ i, i < ops.size → (listed.getD i false = false ↔ i ∈ l)) → (∀ i ∈ l, i < ops.size) →
      Closed ops.toList listed → pairsOk cf ops.toList l = true → (∀ l1 i l2, l = l1 ++ i :: l2 → ∀ o, ops[i]? = some o → ∀ e ∈ o.after.toList, Region.binds .any e = true → e.on < ops.size ∧ e.on ∉ i :: l2) →
      ordE P gl cf ops.toList l ρ σ K → Stp gl w0 M0 σ0 w M σ → Fits cf w M ρ a → wpAny P .any ops Q n listed a w := by
  intro n
  induction n with
  | zero =>
    intro l listed ρ σ w M a hl _ hsz hmem _ _ _ _ h hS hF
    have : l = [] := List.eq_nil_of_length_eq_zero hl
    subst this
    refine ⟨?_, hQ ρ σ w M a h hS hF⟩
    apply List.eq_nil_iff_forall_not_mem.2
    intro i hi
    obtain ⟨hun, o, ho, _⟩ := mem_ready.1 hi
    have hlt : i < ops.size := (Array.getElem?_eq_some_iff.1 ho).1
    have h1 : listed.getD i false = false := by
      have : i < listed.size := by omega
      simp [Array.getD, this] at hun ⊢; exact hun
    exact absurd ((hmem i hlt).1 h1) (by simp)
  | succ n ih =>
    intro l listed ρ σ w M a hl hnd hsz hmem hin hcl hp ht h hS hF
    have hfirst : Region.ready .any ops listed ≠ [] := by
      cases l with
      | nil => simp at hl
      | cons i r =>
        have hi := hin i (by simp)
        have ho : ops[i]? = some ops[i] := Array.getElem?_eq_getElem hi
        have : i ∈ Region.ready .any ops listed := by
          refine mem_ready.2 ⟨?_, ops[i], ho, fun e he hb => ?_⟩
          · have h1 := (hmem i hi).2 (by simp)
            have : i < listed.size := by omega
            simp [Array.getD, this] at h1 ⊢; exact h1
          · obtain ⟨h2, h3⟩ := ht [] i r rfl ops[i] ho e (by simpa using he) hb
            cases h4 : listed.getD e.on false with
            | true => rfl
            | false => exact absurd ((hmem e.on h2).1 h4) h3
        intro he; rw [he] at this; cases this
    refine ⟨fun he => absurd he hfirst, fun j hj => ?_⟩
    obtain ⟨hun, oj, hoj, hall⟩ := mem_ready.1 hj
    have hlt : j < ops.size := (Array.getElem?_eq_some_iff.1 hoj).1
    have hjl : j ∈ l := (hmem j hlt).1 (by
      have : j < listed.size := by omega
      simp [Array.getD, this] at hun ⊢; exact hun)
    obtain ⟨l1, l2, rfl⟩ := List.append_of_mem hjl
    have hoj' : ops.toList[j]? = some oj := by simpa using hoj
    have hfree : ∀ k ∈ l1, free cf ops.toList k j = true := fun k hk => by
      rcases pairsOk_at hp k hk with h1 | h1
      · have h2 := waits_listed hcl _ j k oj hoj' (fun e he hb => hall e (by simpa using he) hb) h1
        have h3 := (hmem k (hin k (by simp [hk]))).2 (by simp [hk])
        rw [h3] at h2; cases h2
      · exact h1
    have hstep := ordE_front hK hSm hoj' (hd oj (List.mem_of_getElem? hoj')) l1 l2 ρ σ hfree h
    refine stepE_sound hoj hS.inv hF hstep fun ρ' σ' w' M' a' hord hs hF' => ?_
    have hnd2 : j ∉ l1 ++ l2 ∧ (l1 ++ l2).Nodup := by
      have := (List.perm_middle (a := j) (l₁ := l1) (l₂ := l2)).nodup_iff.1 hnd
      simpa using this
    have hset : ∀ i, (listed.setIfInBounds j true).getD i false = if i = j then true else listed.getD i false := fun i => by
      by_cases hij : i = j
      · subst hij; simp [Array.getD, hsz, hlt]
      · simp [Array.getD_eq_getD_getElem?, Array.getElem?_setIfInBounds_ne (fun h : j = i => hij h.symm), hij]
    refine ih (l1 ++ l2) (listed.setIfInBounds j true) ρ' σ' w' M' a' (by simp at hl ⊢; omega) hnd2.2 (by simp [hsz]) (fun i hi => ?_) (fun i hi => hin i (by simp at hi ⊢; rcases hi with hi | hi <;> simp [hi])) ?_ (pairsOk_drop hp) ?_ hord (hS.trans hs) hF'
    · rw [hset]
      by_cases hij : i = j
      · subst hij; simp [hnd2.1]
      · rw [if_neg hij, hmem i hi]
        simp [hij]
    · intro m o hm hlm e he hb
      rw [hset] at hlm ⊢
      by_cases hmj : m = j
      · subst hmj
        have : o = oj := by rw [hoj'] at hm; cases hm; rfl
        subst this
        have := hall e (by simpa using he) hb
        split
        · rfl
        · exact this
      · rw [if_neg hmj] at hlm
        have := hcl m o hm hlm e he hb
        split
        · rfl
        · exact this
    · intro l1' i l2' he o ho e hea hb
      -- where the entry stands in the longer list
      have : ∃ p q, l1 ++ j :: l2 = p ++ i :: q ∧ ∀ x ∈ i :: l2', x ∈ i :: q := by
        rcases List.append_eq_append_iff.1 he with ⟨as, h1, h2⟩ | ⟨bs, h1, h2⟩
        · -- l1' = l1 ++ as, l2 = as ++ i :: l2'
          exact ⟨l1 ++ j :: as, l2', by rw [h2]; simp, fun x hx => hx⟩
        · -- l1 = l1' ++ bs, i :: l2' = bs ++ l2
          cases bs with
          | nil =>
            simp only [List.nil_append] at h2
            simp only [List.append_nil] at h1
            exact ⟨l1 ++ [j], l2', by rw [← h2]; simp, fun x hx => hx⟩
          | cons b bs =>
            simp only [List.cons_append, List.cons.injEq] at h2
            obtain ⟨rfl, h2⟩ := h2
            exact ⟨l1', bs ++ j :: l2, by rw [h1]; simp, fun x hx => by
              rw [h2] at hx
              simp at hx ⊢
              rcases hx with hx | hx | hx <;> simp [hx]⟩
      obtain ⟨p, q, hpq, hsub⟩ := this
      obtain ⟨h1, h2⟩ := ht p i q hpq o ho e hea hb
      exact ⟨h1, fun hx => h2 (hsub _ hx)⟩

theorem topoOk_spec {all : List Oper} : ∀ {l seen : List Nat}, topoOk all seen l = true → ∀ l1 i l2, l = l1 ++ i :: l2 → ∃ o, all[i]? = some o ∧ ∀ e ∈ o.after.toList, Region.binds .any e = true → e.on ∈ l1 ∨ e.on ∈ seen
  | [], _, _, l1, i, l2, he => by simp at he
  | x :: r, seen, h, l1, i, l2, he => by
    simp only [topoOk, Bool.and_eq_true] at h
    cases l1 with
    | nil =>
      simp only [List.nil_append, List.cons.injEq] at he
      obtain ⟨rfl, rfl⟩ := he
      cases hx : all[x]? with
      | none => rw [hx] at h; simp at h
      | some o =>
        rw [hx] at h
        refine ⟨o, rfl, fun e hea hb => .inr ?_⟩
        have := List.all_eq_true.1 h.1 e hea
        simpa [hb] using this
    | cons y l1 =>
      simp only [List.cons_append, List.cons.injEq] at he
      obtain ⟨rfl, rfl⟩ := he
      obtain ⟨o, ho, h2⟩ := topoOk_spec h.2 l1 i l2 rfl
      refine ⟨o, ho, fun e hea hb => ?_⟩
      rcases h2 e hea hb with h3 | h3
      · exact .inl (List.mem_cons_of_mem _ h3)
      · rcases List.mem_cons.1 h3 with h4 | h4
        · exact .inl (by rw [h4]; simp)
        · exact .inr h4

theorem keep_eqE (ks : List Nat) {ρ ρ' : Env} (h : EqE ρ ρ') : keep ks ρ = keep ks ρ' := by
  unfold keep
  exact List.map_congr_left fun k _ => by rw [h k]

/-- A region whose order is drawn: serve one order. -/
theorem DrawWp.ord {cf : Cfg} {id : Nat} {ops : Array Oper} {ρ : Env} {σ : Store} {K : Exit → Env → Store → Prop} (hm : P.follows .mixedOrders = true) (l : List Nat) (hok : ordOk cf ops.toList l = true)
    (h : ordE P gl cf ops.toList l ρ σ fun ρ σ => K .normal (keep cf.ks ρ) σ) : DrawWp P gl cf id ops ρ σ fun e ρ σ => K e (keep cf.ks ρ) σ := by
  intro w M a hI hF
  unfold ordOk at hok
  simp only [Bool.and_eq_true, beq_iff_eq, List.all_eq_true, List.contains_iff_mem, List.mem_range, decide_eq_true_eq] at hok
  obtain ⟨⟨⟨⟨⟨⟨hlen, hall⟩, hnd⟩, hin⟩, hp⟩, ht⟩, hd⟩ := hok
  replace hnd := noDup_spec hnd
  have hlen' : l.length = ops.size := by simpa using hlen
  have hsub : List.range ops.size ⊆ l := fun i hi => hall i (by simpa using hi)
  replace hin : ∀ i ∈ l, i < ops.size := fun i hi => by simpa using hin i hi
  refine wp_region_any hm ?_
  refine wpAny_of_ord (P := P) (gl := gl) (cf := cf) (K := fun ρ σ => ∃ τ, τ.Perm σ ∧ K .normal (keep cf.ks ρ) τ) (fun ρ1 ρ2 σ he ⟨τ, hp, hk⟩ => ⟨τ, hp, by rw [← keep_eqE cf.ks he]; exact hk⟩) (fun ρ1 σ1 τ1 hs ⟨τ, hp, hk⟩ => ⟨τ, hp.trans hs.1, hk⟩) hd (w0 := w) (M0 := M) (σ0 := σ)
    (fun ρ' σ' w' M' a' ⟨τ, hp, hk⟩ hs hF' => ⟨ρ', τ, M', hk, hs.perm hp, hF'⟩) ops.size l (Array.replicate ops.size false) ρ σ w.drew M a hlen' hnd (by simp) (fun i hi => ?_) hin ?_ hp ?_ (ordE_mono (fun ρ σ hk => ⟨σ, .refl _, hk⟩) l ρ σ h) (Stp.drew hI) (hF.keeps (Keeps.drew w M))
  · have : i ∈ l := hsub (by simpa using hi)
    simp [Array.getD, hi, this]
  · intro m o hm hlm
    have : (Array.replicate ops.size false).getD m false = false := by
      by_cases hml : m < ops.size
      · simp [Array.getD, hml]
      · simp [Array.getD, hml]
    rw [this] at hlm; cases hlm
  · intro l1 i l2 he o ho e hea hb
    obtain ⟨o', ho', h2⟩ := topoOk_spec ht l1 i l2 he
    have : o' = o := by
      have : ops.toList[i]? = some o := by simpa using ho
      rw [this] at ho'; cases ho'; rfl
    subst this
    have h3 : e.on ∈ l1 := by
      rcases h2 e hea hb with h3 | h3
      · exact h3
      · cases h3
    refine ⟨hin _ (by rw [he]; simp [h3]), fun h4 => ?_⟩
    rw [he] at hnd
    exact (List.nodup_append.1 hnd).2.2 _ h3 _ h4 rfl

theorem ordE_of_opsD {cf : Cfg} {all : List Oper} {K : Env → Store → Prop} (hK : Exl K) : ∀ (l : List Nat) (os : List Oper) (ρ ρ' : Env) (σ : Store), l.map (all[·]?) = os.map some → EqE ρ ρ' → opsD P gl cf all os ρ σ K → ordE P gl cf all l ρ' σ K
  | [], os, ρ, ρ', σ, hl, he, h => by
    have : os = [] := by cases os <;> simp at hl ⊢
    subst this
    exact hK _ _ _ he h
  | i :: r, [], ρ, ρ', σ, hl, he, h => by simp at hl
  | i :: r, o :: os, ρ, ρ', σ, hl, he, h => by
    simp only [List.map_cons, List.cons.injEq] at hl
    simp only [ordE, hl.1]
    simp only [opsD] at h
    obtain ⟨hd, h⟩ := h
    refine fun _ => ⟨hd, ?_⟩
    cases hg : o.guard with
    | none =>
      have hw : want all o ρ' = some true := by unfold want; simp only [hg]
      rw [hg] at h
      rw [hw]
      simp only at h ⊢
      rw [← opD_congr (ρ := ρ) fun x _ => ev_eqE he x]
      exact opD_mono h fun v σ' hv => ordE_of_opsD hK r os _ _ σ' hl.2 (he.put _ _) hv
    | some gp =>
      obtain ⟨g, p⟩ := gp
      rw [hg] at h
      simp only at h
      split at h
      · rename_i t ht
        split at h
        · rename_i q hq
          have hq' : get ρ' t = .raw (.bool q) := by rw [← he t]; exact hq
          have hw : want all o ρ' = some (q == p) := by unfold want; simp only [hg, ht, hq']
          rw [hw]
          by_cases hqp : q = p
          · subst hqp
            have hqq : (q == q) = true := by simp
            rw [hqq]
            simp only
            have he2 : EqE ((t, .bool q) :: ρ) ρ' := fun i => by
              simp only [get]
              by_cases hi : i = t
              · subst hi; simp [hq']
              · have h1 : (i == t) = false := by simpa using hi
                simp only [h1, cond_false]; exact he i
            rw [← opD_congr (ρ := (t, .bool q) :: ρ) fun x _ => ev_eqE he2 x]
            exact opD_mono (h.1 rfl) fun v σ' hv => ordE_of_opsD hK r os _ _ σ' hl.2 (he2.put _ _) hv
          · have hb : (q == p) = false := by simpa using hqp
            have hq2 : q = !p := by cases q <;> cases p <;> simp_all
            rw [hb]
            simp only
            have he2 : EqE ((t, .bool !p) :: ρ) ρ' := fun i => by
              simp only [get]
              by_cases hi : i = t
              · subst hi; simp [hq', hq2]
              · have h1 : (i == t) = false := by simpa using hi
                simp only [h1, cond_false]; exact he i
            exact ordE_of_opsD hK r os _ _ σ hl.2 (he2.put _ _) (h.2 hq2)
        · rename_i hq
          have hq' : get ρ' t = .tup [] := by rw [← he t]; exact hq
          have hw : want all o ρ' = some false := by unfold want; simp only [hg, ht, hq']
          rw [hw]
          exact ordE_of_opsD hK r os _ _ σ hl.2 (he.put _ _) h
        · cases h
      · cases h

theorem DrawWp.text {cf : Cfg} {id : Nat} {ops : Array Oper} {ρ : Env} {σ : Store} {K : Exit → Env → Store → Prop} (hm : P.follows .mixedOrders = true) (hok : ordOk cf ops.toList (List.range ops.toList.length) = true)
    (h : opsD P gl cf ops.toList ops.toList ρ σ fun ρ σ => K .normal (keep cf.ks ρ) σ) : DrawWp P gl cf id ops ρ σ fun e ρ σ => K e (keep cf.ks ρ) σ :=
  DrawWp.ord hm _ hok (ordE_of_opsD (fun ρ1 ρ2 σ he hk => by show K .normal (keep cf.ks ρ2) σ; rw [← keep_eqE cf.ks he]; exact hk) _ _ ρ ρ σ (by
    apply List.ext_getElem?
    intro i
    by_cases hi : i < ops.toList.length
    · simp only [List.getElem?_map, List.getElem?_range hi, Option.map_some, List.getElem?_eq_getElem hi]
    · rw [List.getElem?_eq_none (by simpa using hi), List.getElem?_eq_none (by simpa using hi)]) (fun _ => rfl) h)
theorem DrawWp.by {cf : Cfg} {id : Nat} {ops : Array Oper} {ρ : Env} {σ : Store} {K : Exit → Env → Store → Prop} (hm : P.follows .mixedOrders = true) (l : List Nat) (os : List Oper) (hos : l.map (ops.toList[·]?) = os.map some) (hok : ordOk cf ops.toList l = true)
    (h : opsD P gl cf ops.toList os ρ σ fun ρ σ => K .normal (keep cf.ks ρ) σ) : DrawWp P gl cf id ops ρ σ fun e ρ σ => K e (keep cf.ks ρ) σ :=
  DrawWp.ord hm _ hok (ordE_of_opsD (fun ρ1 ρ2 σ he hk => by show K .normal (keep cf.ks ρ2) σ; rw [← keep_eqE cf.ks he]; exact hk) l os ρ ρ σ hos (fun _ => rfl) h)
end
end Go.AX
end
section
/- Lending: own blocks read as data for the time of a call, or from now on. -/
namespace Go.AX
open Go

section
variable {P : Program} {gl : Globs}

/-- The books are turned, no memory. -/
def Turn (gl : Globs) (σ τ : Store) : Prop := ∀ w M, Inv gl w M σ → ∃ M', Stp gl w M σ w M' τ
theorem Turn.refl (σ : Store) : Turn gl σ σ := fun _ M h => ⟨M, Stp.refl h⟩
theorem Turn.perm {σ τ : Store} (h : τ.Perm σ) : Turn gl σ τ := fun _ M hI => ⟨M, (Stp.refl hI).perm h⟩
theorem Turn.sub {σ τ : Store} (h : τ.Sublist σ) : Turn gl σ τ := fun _ M hI => ⟨M, (Stp.refl hI).sub h⟩
theorem Turn.trans {a b c : Store} (h : Turn gl a b) (k : Turn gl b c) : Turn gl a c := fun w M hI => by
  obtain ⟨M1, s1⟩ := h w M hI
  obtain ⟨M2, s2⟩ := k w M1 s1.inv
  exact ⟨M2, s1.trans s2⟩
theorem LoopWp.introT {cf : Cfg} {c : Code} {ρ : Env} {σ : Store} {K : Exit → Env → Store → Prop} (I : Nat → Env → Store → Prop) (n : Nat) (h0 : ∃ τ, Turn gl σ τ ∧ I n ρ τ)
    (step : ∀ n ρ σ, I n ρ σ → cWp P gl cf c ρ σ fun e ρ' σ' => match e with | .normal => ∃ τ, Turn gl σ' τ ∧ ∃ m, m < n ∧ I m ρ' τ | e => K e ρ' σ') : LoopWp P gl cf c ρ σ K := by
  intro w M a hI hF
  obtain ⟨τ, hT, hI0⟩ := h0
  obtain ⟨M0, s0⟩ := hT w M hI
  refine wp_loop_ghost (fun n a' w' => ∃ ρ' σ' M', I n ρ' σ' ∧ Stp gl w M σ w' M' σ' ∧ Fits cf w' M' ρ' a') n ⟨ρ, τ, M0, hI0, s0, hF.keeps s0.ext.keeps⟩ ?_
  intro n a' w' ⟨ρ', σ', M', h1, h2, h3⟩
  refine wp_mono (cWp_sound c ρ' σ' _ (step n ρ' σ' h1) w' M' a' h2.inv h3) fun e a2 w2 ⟨ρ2, σ2, M2, h4, h5, h6⟩ => ?_
  cases e with
  | normal =>
    obtain ⟨τ2, hT2, m, hm, hI'⟩ := h4
    obtain ⟨M3, s3⟩ := hT2 w2 M2 h5.inv
    exact ⟨m, hm, ρ2, τ2, M3, hI', (h2.trans h5).trans s3, h6.keeps s3.ext.keeps⟩
  | exit n => exact ⟨ρ2, σ2, M2, h4, h2.trans h5, h6⟩
  | goto l => exact ⟨ρ2, σ2, M2, h4, h2.trans h5, h6⟩
  | ret => exact ⟨ρ2, σ2, M2, h4, h2.trans h5, h6⟩
  | panic ch => exact ⟨ρ2, σ2, M2, h4, h2.trans h5, h6⟩
  | outgrown => exact ⟨ρ2, σ2, M2, h4, h2.trans h5, h6⟩
theorem CallWp.turn {f : FuncId} {args : List AV} {σ τ : Store} {K : AV → Store → Prop} (ht : Turn gl σ τ) (h : CallWp P gl f args τ K) : CallWp P gl f args σ K :=
  ⟨h.1, fun w M vs hI hr => by
    obtain ⟨M1, s1⟩ := ht w M hI
    exact (h.2 w M1 vs s1.inv (repAll.keep s1.ext.keeps _ _ hr)).mono fun _ _ ⟨v, M', r, σ', h1, h2, h3, h4⟩ => ⟨v, M', r, σ', h1, h2, s1.trans h3, h4⟩⟩
theorem CallWp.post {f : FuncId} {args : List AV} {σ : Store} {K : AV → Store → Prop} (h : CallWp P gl f args σ fun r σ1 => ∃ τ, Turn gl σ1 τ ∧ K r τ) : CallWp P gl f args σ K :=
  ⟨h.1, fun w M vs hI hr => (h.2 w M vs hI hr).mono fun _ _ ⟨v, M', r, σ1, h1, ⟨τ, hT, hK⟩, h4, h5⟩ => by
    obtain ⟨M2, s2⟩ := hT _ M' h4.inv
    exact ⟨v, M2, r, τ, h1, hK, h4.trans s2, rep.keep s2.ext.keeps _ _ h5⟩⟩

/-- Own blocks τ are read as data from now on. -/
def GhAll (gl : Globs) (τ : Store) (as bs : List AV) : Prop := ∀ w M vs, Inv gl w M τ → repAll w M as vs → ∃ M', Stp gl w M τ w M' [] ∧ repAll w M' bs vs
theorem Gh.all {τ : Store} {a b : AV} (h : Gh gl τ a [] b) : GhAll gl τ [a] [b] := fun w M vs hI hr => by
  simp only [repAll] at hr
  obtain ⟨v, t, rfl, h1, rfl⟩ := hr
  obtain ⟨M', s, h2⟩ := h w M v hI h1
  exact ⟨M', s, by simp only [repAll]; exact ⟨v, [], rfl, h2, rfl⟩⟩
theorem GhAll.nil : GhAll gl [] [] [] := fun w M vs hI hr => ⟨M, Stp.refl hI, by simpa only [repAll] using hr⟩
theorem GhAll.app {τ1 τ2 : Store} {as as' bs bs' : List AV} (h : GhAll gl τ1 as bs) (k : GhAll gl τ2 as' bs') : GhAll gl (τ1 ++ τ2) (as ++ as') (bs ++ bs') := fun w M vs hI hr => by
  have split : ∀ {as as' : List AV} {vs}, repAll w M (as ++ as') vs → ∃ v1 v2, vs = v1 ++ v2 ∧ repAll w M as v1 ∧ repAll w M as' v2 := by
    intro as
    induction as with
    | nil => intro as' vs h; exact ⟨[], vs, rfl, by simp [repAll], by simpa using h⟩
    | cons a r ih =>
      intro as' vs h
      simp only [List.cons_append, repAll] at h
      obtain ⟨v, t, rfl, h1, h2⟩ := h
      obtain ⟨v1, v2, rfl, h3, h4⟩ := ih h2
      exact ⟨v :: v1, v2, rfl, by simp only [repAll]; exact ⟨v, v1, rfl, h1, h3⟩, h4⟩
  obtain ⟨v1, v2, rfl, h1, h2⟩ := split hr
  obtain ⟨M1, s1, r1⟩ := h w M v1 (hI.sub (List.sublist_append_left _ _)) h1
  have f1 := Stp.frame hI s1
  simp only [List.nil_append] at f1
  obtain ⟨M2, s2, r2⟩ := k w M1 v2 f1.inv (repAll.keep f1.ext.keeps _ _ h2)
  exact ⟨M2, f1.trans s2, repAll_append (repAll.keep s2.ext.keeps _ _ r1) r2⟩
theorem Gh.cons {τ1 τ2 : Store} {a b : AV} {as bs : List AV} (h : Gh gl τ1 a [] b) (k : GhAll gl τ2 as bs) : GhAll gl (τ1 ++ τ2) (a :: as) (b :: bs) := GhAll.app h.all k
theorem Gh.of {a b : AV} (h : Sees gl [] a b) : Gh gl [] a [] b := fun w M v hI hr => ⟨M, Stp.refl hI, h w M v hI hr⟩
theorem Gh.same {τ : Store} (a : AV) : Gh gl τ a [] a := fun _ M _ hI hr => ⟨M, (Stp.refl hI).sub (List.nil_sublist _), hr⟩
theorem Gh.trans {a b c : AV} {σ1 σ2 σ3 : Store} (h : Gh gl σ1 a σ2 b) (k : Gh gl σ2 b σ3 c) : Gh gl σ1 a σ3 c := fun w M v hI hr => by
  obtain ⟨M1, s1, r1⟩ := h w M v hI hr
  obtain ⟨M2, s2, r2⟩ := k w M1 v s1.inv r1
  exact ⟨M2, s1.trans s2, r2⟩
theorem GhAll.refl (τ : Store) (as : List AV) : GhAll gl τ as as := fun _ M _ hI hr => ⟨M, (Stp.refl hI).sub (List.nil_sublist _), hr⟩
theorem GhAll.agg {τ : Store} {as bs : List AV} (h : GhAll gl τ as bs) : Gh gl τ (.agg as) [] (.agg bs) := fun w M v hI hr => by
  simp only [rep] at hr
  obtain ⟨vs, h1, h2, h3⟩ := hr
  obtain ⟨M', s, h4⟩ := h w M vs hI h2
  exact ⟨M', s, by simp only [rep]; exact ⟨vs, h1, h4, h3⟩⟩
theorem GhAll.tup {τ : Store} {as bs : List AV} (h : GhAll gl τ as bs) : Gh gl τ (.tup as) [] (.tup bs) := fun w M v hI hr => by
  simp only [rep] at hr
  obtain ⟨vs, h1, h2⟩ := hr
  obtain ⟨M', s, h4⟩ := h w M vs hI h2
  exact ⟨M', s, by simp only [rep]; exact ⟨vs, h1, h4⟩⟩
theorem Turn.gh {τ1 τ2 : Store} (h : Turn gl τ1 τ2) {a b : AV} (k : Gh gl τ2 a [] b) : Gh gl τ1 a [] b := fun w M v hI hr => by
  obtain ⟨M1, s1⟩ := h w M hI
  obtain ⟨M2, s2, r2⟩ := k w M1 v s1.inv (rep.keep s1.ext.keeps _ _ hr)
  exact ⟨M2, s1.trans s2, r2⟩
theorem Turn.ghAll {τ1 τ2 : Store} (h : Turn gl τ1 τ2) {a b : List AV} (k : GhAll gl τ2 a b) : GhAll gl τ1 a b := fun w M v hI hr => by
  obtain ⟨M1, s1⟩ := h w M hI
  obtain ⟨M2, s2, r2⟩ := k w M1 v s1.inv (repAll.keep s1.ext.keeps _ _ hr)
  exact ⟨M2, s1.trans s2, r2⟩

/-- An own block whose cells hold own blocks again. -/
theorem own_fix {b : Nat} {cs cs' : List AV} {τ : Store} (h : GhAll gl τ cs cs') {w M} (hI : Inv gl w M ((b, .own cs) :: τ)) : ∃ M', Stp gl w M ((b, .own cs) :: τ) w M' [] ∧ repCells w M' b 0 cs' := by
  obtain ⟨c, e, hb, hM, hr, h1⟩ := hI.objs (b, .own cs) (by simp)
  simp only at hb hM
  have hnd := hI.nodup
  simp only [keys, List.map_cons, List.nodup_cons] at hnd
  obtain ⟨M1, s1, r1⟩ := h w M c.toList (hI.sub (List.sublist_cons_self _ _)) hr
  have hperm : ((b, .own cs) :: τ).Perm (τ ++ [(b, .own cs)]) := (List.perm_append_singleton _ _).symm
  have f1 := Stp.frame (hI.perm hperm.symm) s1
  simp only [List.nil_append] at f1
  have hlt := (Array.getElem?_eq_some_iff.1 hb).1
  have hM1 : M1 b = 0 := by rw [(s1.ext.frame b hlt (by simpa [keys] using hnd.1)).2]; exact hM
  have hI1 : Inv gl w M1 [(b, .own cs')] := ⟨fun p hp => by
      simp only [List.mem_singleton] at hp
      subst hp
      exact ⟨c, e, hb, hM1, r1, h1⟩, by simp [keys], f1.inv.wf, f1.inv.glob⟩
  obtain ⟨M2, s2⟩ := Stp.fix hI1 (b := b) (cs := cs') (by simp [look])
  have s2' : Stp gl w M1 [(b, .own cs)] w M2 (setAt [(b, .own cs')] b (.fixd cs')) := ⟨s2.ext, s2.inv, s2.keys⟩
  have hfix := s2.inv.objs (b, .fixd cs') (by simp [setAt])
  exact ⟨M2, ((f1.trans s2').sub (List.nil_sublist _)).perm_left hperm, hfix.1⟩
theorem repRows_of_cells {w M} {b : Nat} (sz : Nat) : ∀ (n o : Nat) (cs : List AV), n * sz ≤ cs.length → repCells w M b o cs → repRows w M b o sz (rowsOf n sz cs)
  | 0, _, _, _, _ => by simp only [rowsOf, repRows]
  | n + 1, o, cs, h, hr => by
    rw [Nat.add_mul, Nat.one_mul] at h
    simp only [rowsOf, repRows]
    exact ⟨⟨by simp; omega, repCells_take hr sz⟩, repRows_of_cells sz n (o + sz) _ (by simp; omega) (repCells_drop hr sz)⟩
theorem Gh.slice {b n c sz : Nat} {cs cs' : List AV} {τ : Store} (h : GhAll gl τ cs cs') (hn : n ≤ c) (hl : n * sz ≤ cs'.length) : Gh gl ((b, .own cs) :: τ) (.msl b 0 n c) [] (.list sz (rowsOf n sz cs')) := fun w M v hI hr => by
  obtain ⟨M', s, hc⟩ := own_fix h hI
  refine ⟨M', s, ?_⟩
  simp only [rep] at hr ⊢
  exact ⟨_, c, by rw [hr, rowsOf_length'], by rw [rowsOf_length']; exact hn, .inr ⟨b, 0, rfl, repRows_of_cells sz n 0 cs' hl hc⟩⟩
theorem Gh.ptr {b : Nat} {cs cs' : List AV} {τ : Store} (h : GhAll gl τ cs cs') : Gh gl ((b, .own cs) :: τ) (.ptr b 0) [] (.cptr cs') := fun w M v hI hr => by
  obtain ⟨M', s, hc⟩ := own_fix h hI
  refine ⟨M', s, ?_⟩
  simp only [rep] at hr ⊢
  exact ⟨b, 0, hr, hc⟩

/-- The books are turned, and slots are read in another way. -/
def Recast (gl : Globs) (σ : Store) (ρ : Env) (τ : Store) (ρ2 : Env) : Prop := ∀ w M (f : Nat → Value), Inv gl w M σ → (∀ i, rep w M (get ρ i) (f i)) → ∃ M', Stp gl w M σ w M' τ ∧ ∀ i, rep w M' (get ρ2 i) (f i)
theorem Recast.refl (σ : Store) (ρ : Env) : Recast gl σ ρ σ ρ := fun _ M _ hI hr => ⟨M, Stp.refl hI, hr⟩
theorem Recast.turn {σ τ : Store} {ρ : Env} (h : Turn gl σ τ) : Recast gl σ ρ τ ρ := fun w M _ hI hr => by
  obtain ⟨M', s⟩ := h w M hI
  exact ⟨M', s, fun i => rep.keep s.ext.keeps _ _ (hr i)⟩
theorem Recast.trans {a b c : Store} {x y z : Env} (h : Recast gl a x b y) (k : Recast gl b y c z) : Recast gl a x c z := fun w M f hI hr => by
  obtain ⟨M1, s1, r1⟩ := h w M f hI hr
  obtain ⟨M2, s2, r2⟩ := k w M1 f s1.inv r1
  exact ⟨M2, s1.trans s2, r2⟩
/-- The part τ of the store is given up, the slot k read as data. -/
theorem Recast.gh {τ σ : Store} {ρ : Env} {k : Nat} {a b : AV} (ha : get ρ k = a) (h : Gh gl τ a [] b) : Recast gl (τ ++ σ) ρ σ ((k, b) :: ρ) := fun w M f hI hr => by
  have hk := hr k
  rw [ha] at hk
  obtain ⟨M1, s1, r1⟩ := h w M (f k) (hI.sub (List.sublist_append_left _ _)) hk
  have f1 := Stp.frame hI s1
  simp only [List.nil_append] at f1
  refine ⟨M1, f1, fun i => ?_⟩
  simp only [get]
  by_cases hi : i = k
  · subst hi; simpa using r1
  · have : (i == k) = false := by simpa using hi
    simp only [this, cond_false]
    exact rep.keep f1.ext.keeps _ _ (hr i)
theorem LoopWp.introR {cf : Cfg} {c : Code} {ρ : Env} {σ : Store} {K : Exit → Env → Store → Prop} (I : Nat → Env → Store → Prop) (n : Nat) (h0 : ∃ τ ρ2, Recast gl σ ρ τ ρ2 ∧ I n ρ2 τ)
    (step : ∀ n ρ σ, I n ρ σ → cWp P gl cf c ρ σ fun e ρ' σ' => match e with | .normal => ∃ τ ρ2, Recast gl σ' ρ' τ ρ2 ∧ ∃ m, m < n ∧ I m ρ2 τ | e => K e ρ' σ') : LoopWp P gl cf c ρ σ K := by
  intro w M a hI hF
  obtain ⟨τ, ρ2, hT, hI0⟩ := h0
  obtain ⟨M0, s0, r0⟩ := hT w M _ hI hF.1
  refine wp_loop_ghost (fun n a' w' => ∃ ρ' σ' M', I n ρ' σ' ∧ Stp gl w M σ w' M' σ' ∧ Fits cf w' M' ρ' a') n ⟨ρ2, τ, M0, hI0, s0, r0, hF.2⟩ ?_
  intro n a' w' ⟨ρ', σ', M', h1, h2, h3⟩
  refine wp_mono (cWp_sound c ρ' σ' _ (step n ρ' σ' h1) w' M' a' h2.inv h3) fun e a2 w2 ⟨ρ2, σ2, M2, h4, h5, h6⟩ => ?_
  cases e with
  | normal =>
    obtain ⟨τ2, ρ3, hT2, m, hm, hI'⟩ := h4
    obtain ⟨M3, s3, r3⟩ := hT2 w2 M2 _ h5.inv h6.1
    exact ⟨m, hm, ρ3, τ2, M3, hI', (h2.trans h5).trans s3, r3, h6.2⟩
  | exit n => exact ⟨ρ2, σ2, M2, h4, h2.trans h5, h6⟩
  | goto l => exact ⟨ρ2, σ2, M2, h4, h2.trans h5, h6⟩
  | ret => exact ⟨ρ2, σ2, M2, h4, h2.trans h5, h6⟩
  | panic ch => exact ⟨ρ2, σ2, M2, h4, h2.trans h5, h6⟩
  | outgrown => exact ⟨ρ2, σ2, M2, h4, h2.trans h5, h6⟩

/-! ### For the time of a call -/
def flatA : AV → Bool
  | .raw _ | .str _ | .top | .mt => true
  | .tup vs => vs.all fun v => match v with | .raw _ | .str _ | .top | .mt => true | _ => false
  | _ => false
def flatO : AObj → Bool
  | .own cs => cs.all fun v => match v with | .raw _ | .str _ | .top | .mt => true | _ => false
  | .tail _ => true
  | .fixd _ => false
theorem rep_flat1 {w M w' M'} {a : AV} {v : Value} (hf : (match a with | .raw _ | .str _ | .top | .mt => true | _ => false) = true) (h : rep w M a v) : rep w' M' a v := by
  cases a <;> simp at hf <;> first | (simp only [rep]; done) | (simpa only [rep] using h)
theorem repAll_flat {w M w' M'} : ∀ {as : List AV} {vs : List Value}, (∀ a ∈ as, (match a with | AV.raw _ | AV.str _ | AV.top | AV.mt => true | _ => false) = true) → repAll w M as vs → repAll w' M' as vs
  | [], _, _, h => by simpa only [repAll] using h
  | a :: r, _, hf, h => by
    simp only [repAll] at h ⊢
    obtain ⟨v, t, h1, h2, h3⟩ := h
    exact ⟨v, t, h1, rep_flat1 (hf a (by simp)) h2, repAll_flat (fun x hx => hf x (by simp [hx])) h3⟩
theorem rep_flat {w M w' M'} {a : AV} {v : Value} (hf : flatA a = true) (h : rep w M a v) : rep w' M' a v := by
  cases a with
  | tup vs =>
    simp only [flatA, List.all_eq_true] at hf
    simp only [rep] at h ⊢
    obtain ⟨us, h1, h2⟩ := h
    exact ⟨us, h1, repAll_flat hf h2⟩
  | _ => first | (simp [flatA] at hf; done) | (simp only [rep]; done) | (simpa only [rep] using h)
theorem lend_inv {w M τ M1} (hI : Inv gl w M τ) (s : Stp gl w M τ w M1 []) : ∀ b, b ∉ keys τ → M1 b = M b := fun b hb => by
  by_cases hlt : b < w.heap.size
  · exact (s.ext.frame b hlt hb).2
  · have h0 : M b = 0 := by
      rcases hI.wf b with h | ⟨c, e, f, h, _⟩
      · exact h
      · exact absurd (Array.getElem?_eq_some_iff.1 h).1 hlt
    have h1 : M1 b = 0 := by
      rcases s.inv.wf b with h | ⟨c, e, f, h, _⟩
      · exact h
      · exact absurd (Array.getElem?_eq_some_iff.1 h).1 hlt
    rw [h0, h1]
theorem CallWp.lend {f : FuncId} {as bs : List AV} {τ : Store} {K : AV → Store → Prop} (hv : GhAll gl τ as bs) (h : CallWp P gl f bs [] fun r σ' => flatA r = true ∧ (∀ p ∈ σ', flatO p.2 = true) ∧ K r (σ' ++ τ)) : CallWp P gl f as τ K := by
  refine ⟨h.1, fun w M vs hI hr => ?_⟩
  obtain ⟨M1, s1, r1⟩ := hv w M vs hI hr
  refine (h.2 w M1 vs s1.inv r1).mono fun _ w' ⟨v, M', r, σ', h1, ⟨hf, hfo, hK⟩, s, hrv⟩ => ?_
  have hlend := lend_inv hI s1
  -- the marks of the blocks lent go back
  obtain ⟨M2, hM2⟩ : ∃ M2 : Marks, M2 = fun b => if b ∈ keys τ then M b else M' b := ⟨_, rfl⟩
  have hk : Keeps w M w' M2 := ⟨fun b o ho => s.ext.keeps.cell b o (Nat.lt_of_lt_of_le ho (s1.ext.keeps.mono b)), fun b => by
      rw [hM2]
      show M b ≤ if b ∈ keys τ then M b else M' b
      split
      · exact Nat.le_refl _
      · exact Nat.le_trans (s1.ext.keeps.mono b) (s.ext.keeps.mono b), s.ext.keeps.shape⟩
  have hnew : ∀ b ∈ keys σ', w.heap.size ≤ b := fun b hb => (s.keys b hb).elim (fun h => by simp [keys] at h) id
  have hM2n : ∀ b ∈ keys σ', M2 b = M' b := fun b hb => by
    rw [hM2]
    show (if b ∈ keys τ then M b else M' b) = _
    rw [if_neg fun hk => by have := hI.lt hk; have := hnew b hb; omega]
  have heap_same : ∀ b, b < w.heap.size → w'.heap[b]? = w.heap[b]? := fun b hb => (s.ext.frame b hb (by simp [keys])).1
  have hext : Ext w M (keys τ) w' M2 := ⟨hk, s.ext.os, s.ext.tape, s.ext.output, s.ext.size, fun b hb hn => ⟨heap_same b hb, by
    rw [hM2]
    show (if b ∈ keys τ then M b else M' b) = _
    rw [if_neg hn, (s.ext.frame b hb (by simp [keys])).2, hlend b hn]⟩⟩
  refine ⟨v, M2, r, σ' ++ τ, h1, hK, ⟨hext, ⟨fun p hp => ?_, ?_, fun b => ?_, fun p hp => repCells.keep hk _ _ _ (hI.glob p hp)⟩, fun b hb => ?_⟩, rep_flat hf hrv⟩
  · rcases List.mem_append.1 hp with hp | hp
    · have ho := s.inv.objs p hp
      have hff := hfo p hp
      have hm := hM2n p.1 (List.mem_map.2 ⟨p, hp, rfl⟩)
      obtain ⟨b, o⟩ := p
      cases o with
      | own cs =>
        obtain ⟨c, e, g1, g2, g3, g4⟩ := ho
        simp only [flatO, List.all_eq_true] at hff
        exact ⟨c, e, g1, hm.trans g2, repAll_flat hff g3, g4⟩
      | tail n =>
        obtain ⟨c, e, g1, g2⟩ := ho
        exact ⟨c, e, g1, hm.trans g2⟩
      | fixd cs => simp [flatO] at hff
    · have ho := hI.objs p hp
      have hin : p.1 ∈ keys τ := List.mem_map.2 ⟨p, hp, rfl⟩
      refine ho.keep hk (heap_same p.1 ho.lt) ?_
      rw [hM2]
      show (if p.1 ∈ keys τ then M p.1 else M' p.1) = _
      rw [if_pos hin]
  · simp only [keys, List.map_append]
    refine List.nodup_append.2 ⟨s.inv.nodup, hI.nodup, fun a ha b hb he => ?_⟩
    have h1 := hnew a ha
    have h2 : b < w.heap.size := hI.lt hb
    omega
  · rw [hM2]
    show (if b ∈ keys τ then M b else M' b) = 0 ∨ ∃ c e f, _ ∧ (if b ∈ keys τ then M b else M' b) ≤ _
    split
    · rename_i hb
      rcases hI.wf b with h | ⟨c, e, f, h, h2⟩
      · exact .inl h
      · exact .inr ⟨c, e, f, (heap_same b (hI.lt hb)).trans h, h2⟩
    · exact s.inv.wf b
  · simp only [keys, List.map_append, List.mem_append] at hb ⊢
    rcases hb with hb | hb
    · exact .inr (hnew b hb)
    · exact .inl hb
/-- Own blocks given up to the callee for good. -/
theorem CallWp.give {f : FuncId} {as bs : List AV} {τ σ : Store} {K : AV → Store → Prop} (hv : GhAll gl τ as bs) (h : CallWp P gl f bs σ K) : CallWp P gl f as (τ ++ σ) K :=
  ⟨h.1, fun w M vs hI hr => by
    obtain ⟨M1, s1, r1⟩ := hv w M vs (hI.sub (List.sublist_append_left _ _)) hr
    have f1 := Stp.frame hI s1
    simp only [List.nil_append] at f1
    exact (h.2 w M1 vs f1.inv r1).mono fun _ _ ⟨v, M', r, σ', h1, h2, h3, h4⟩ => ⟨v, M', r, σ', h1, h2, f1.trans h3, h4⟩⟩
/-- A result that only computes, own blocks lent. -/
theorem Pure.lend {f : FuncId} {as bs : List AV} {r : AV} {τ σ : Store} {K : AV → Store → Prop} (h : Pure P gl f bs r) (hv : GhAll gl τ as bs) (hf : flatA r = true) (hk : K r (τ ++ σ)) : CallWp P gl f as (τ ++ σ) K := by
  have h1 : CallWp P gl f as τ fun x σ' => K x (σ' ++ σ) := CallWp.lend hv (CallWp.mono h fun x σ' ⟨hx, hs⟩ => by subst hx hs; exact ⟨hf, by simp, hk⟩)
  exact CallWp.frame h1
/-- The fresh own part of a result becomes data. -/
theorem Pure.own {f : FuncId} {args : List AV} {r : AV} (h : CallWp P gl f args [] fun x σ => Gh gl σ x [] r) : Pure P gl f args r :=
  CallWp.gh (h.mono fun _ _ hg => ⟨r, [], hg, rfl, rfl⟩)
end
end Go.AX
end
