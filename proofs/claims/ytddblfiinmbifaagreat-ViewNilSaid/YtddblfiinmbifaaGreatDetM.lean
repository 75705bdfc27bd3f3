/- Det, part M: the evaluator. -/
import Derived.Test.YtddblfiinmbifaaGreatDetL
import Derived.RangeFuncRecord
import Derived.OrdersIn
namespace Go.Det

abbrev Tm := List Value

def opd (t : Tm) : Operand → Option Value
  | .tmp k => some (t.getD k undef)
  | .const v => if flat v then some v else none
  | .global _ => none
  | .func f => some (.func (.func f) #[] #[])

def putT (t : Tm) (dst : Option Tmp) (v : Value) : Tm :=
  match dst with
  | some d => t.set d v
  | none => t

/-- the function that a call enters, and its arguments -/
def target (ρ : Operand → Option Value) (op : Op) : Option (Fn × List Value) :=
  match op with
  | .call { callee := .value f, args, argTypes := _ } =>
    match ρ f, args.toList.mapM ρ with
    | some (.func (.func g) fi ca), some vs => some (.func g, fi.toList ++ vs ++ ca.toList)
    | some (.func (.yield l) _ _), some vs => some (.yield l, vs)
    | _, _ => none
  | _ => none

abbrev CallF := Fn → List Value → St → Option (Value × St)

def execO (P : Program) (tb : Tb) (call : CallF) (ρ : Operand → Option Value) (op : Op) (σ : St) : Option (Value × St) :=
  match kindOf tb op with
  | .pure => match pureF P tb ρ op with | some v => some (v, σ) | none => none
  | .read => match pureF P tb ρ op with
    | some v => some (v, σ)
    | none => match readF tb ρ op σ with | some v => some (v, σ) | none => none
  | .alloc => allocF tb ρ op σ
  | .act => actF tb ρ op σ
  | .call => match target ρ op with | some (g, vs) => call g vs σ | none => none

def wantA (ops : List Oper) (t : Tm) (o : Oper) : Bool :=
  match o.guard with
  | none => true
  | some (j, want) => match (ops[j]?).bind (·.dst) with
    | some d => match t[d]? with
      | some (.bool b) => b == want
      | _ => false
    | none => false

/-! ## forcing: each of these hands on what it was given, in a form that is written out -/
def fNat {β : Type} (n : Nat) (k : Nat → β) : β := match n with | 0 => k 0 | m + 1 => k (m + 1)
def fInt {β : Type} (n : Int) (k : Int → β) : β := match n with | .ofNat m => fNat m fun m => k (.ofNat m) | .negSucc m => fNat m fun m => k (.negSucc m)
def fBool {β : Type} (b : Bool) (k : Bool → β) : β := match b with | true => k true | false => k false
def fKind {β : Type} (x : IntKind) (k : IntKind → β) : β := match x with
  | .i8 => k .i8 | .i16 => k .i16 | .i32 => k .i32 | .i64 => k .i64 | .u8 => k .u8 | .u16 => k .u16 | .u32 => k .u32 | .u64 => k .u64
def fAddr {β : Type} (a : Option Addr) (k : Option Addr → β) : β := match a with
  | none => k none
  | some ⟨b, o, none⟩ => fNat b fun b => fNat o fun o => k (some ⟨b, o, none⟩)
  | some ⟨b, o, some s⟩ => k (some ⟨b, o, some s⟩)

theorem fNat_eq {β : Type} (n : Nat) (k : Nat → β) : fNat n k = k n := by cases n <;> rfl
theorem fInt_eq {β : Type} (n : Int) (k : Int → β) : fInt n k = k n := by cases n <;> simp only [fInt, fNat_eq]
theorem fBool_eq {β : Type} (b : Bool) (k : Bool → β) : fBool b k = k b := by cases b <;> rfl
theorem fKind_eq {β : Type} (x : IntKind) (k : IntKind → β) : fKind x k = k x := by cases x <;> rfl
theorem fAddr_eq {β : Type} (a : Option Addr) (k : Option Addr → β) : fAddr a k = k a := by
  unfold fAddr
  split <;> simp only [fNat_eq]

mutual
def fVal {β : Type} : Value → (Value → β) → β
  | .bool b, k => fBool b fun b => k (.bool b)
  | .int x n, k => fKind x fun x => fInt n fun n => k (.int x n)
  | .pointer a, k => fAddr a fun a => k (.pointer a)
  | .slice a n c, k => fAddr a fun a => fNat n fun n => fNat c fun c => k (.slice a n c)
  | .agg cs, k => fArr cs fun cs => k (.agg cs)
  | .tuple cs, k => fArr cs fun cs => k (.tuple cs)
  | .func f a c, k => fArr a fun a => fArr c fun c => k (.func f a c)
  | .iface t v, k => fVal v fun v => k (.iface t v)
  | v, k => k v
def fArr {β : Type} : Array Value → (Array Value → β) → β
  | ⟨l⟩, k => fList l fun l => k ⟨l⟩
def fList {β : Type} : List Value → (List Value → β) → β
  | [], k => k []
  | v :: l, k => fVal v fun v => fList l fun l => k (v :: l)
end

mutual
theorem fVal_eq {β : Type} : ∀ (v : Value) (k : Value → β), fVal v k = k v := by
  intro v k
  cases v <;> simp only [fVal, fBool_eq, fKind_eq, fInt_eq, fNat_eq, fAddr_eq]
  · rw [fArr_eq, fArr_eq]
  · rw [fVal_eq]
  · rw [fArr_eq]
  · rw [fArr_eq]
theorem fArr_eq {β : Type} : ∀ (v : Array Value) (k : Array Value → β), fArr v k = k v := by
  intro v k
  obtain ⟨l⟩ := v
  simp only [fArr]; rw [fList_eq]
theorem fList_eq {β : Type} : ∀ (v : List Value) (k : List Value → β), fList v k = k v := by
  intro v k
  cases v <;> simp only [fList]
  rw [fVal_eq, fList_eq]
end

/-- a slot set, the list written out -/
def setK {β : Type} : List Value → Nat → Value → (List Value → β) → β
  | [], _, _, k => k []
  | _ :: l, 0, v, k => k (v :: l)
  | c :: l, n + 1, v, k => setK l n v fun l' => k (c :: l')
theorem setK_eq {β : Type} : ∀ (l : List Value) (n : Nat) (v : Value) (k : List Value → β), setK l n v k = k (l.set n v)
  | [], _, _, _ => rfl
  | _ :: _, 0, _, _ => rfl
  | c :: l, n + 1, v, k => by simp only [setK, List.set_cons_succ]; rw [setK_eq l n v]

def putK {β : Type} (t : Tm) (dst : Option Tmp) (v : Value) (k : Tm → β) : β :=
  match dst with
  | some d => setK t d v k
  | none => k t
theorem putK_eq {β : Type} (t : Tm) (dst : Option Tmp) (v : Value) (k : Tm → β) : putK t dst v k = k (putT t dst v) := by
  cases dst <;> simp only [putK, putT, setK_eq]

def fOb {β : Type} (deep : Bool) (o : Option Ob) (k : Option Ob → β) : β := match o with
  | some (.cells cs) => match deep with
    | true => fList cs fun cs => k (some (.cells cs))
    | false => k (some (.cells cs))
  | some (.map es c) => k (some (.map es c))
  | some (.loop ps t asg body st pend) => k (some (.loop ps t asg body st pend))
  | none => k none
theorem fOb_eq {β : Type} (deep : Bool) (o : Option Ob) (k : Option Ob → β) : fOb deep o k = k o := by
  cases o with
  | none => rfl
  | some o => cases o <;> cases deep <;> simp only [fOb, fList_eq]

/-- a path of the heap written out -/
def touch {β : Type} (deep : Bool) : Tr Ob → Nat → (Tr Ob → β) → β
  | .nil, _, k => k .nil
  | .node l v r, n, k => match n with
    | 0 => fOb deep v fun v => k (.node l v r)
    | m + 1 => match Nat.beq (m % 2) 0 with
      | true => touch deep l (m / 2) fun l => k (.node l v r)
      | false => touch deep r (m / 2) fun r => k (.node l v r)
theorem touch_eq {β : Type} (deep : Bool) : ∀ (h : Tr Ob) (n : Nat) (k : Tr Ob → β), touch deep h n k = k h := by
  intro h
  induction h with
  | nil => intro n k; rfl
  | node l v r ihl ihr =>
    intro n k
    cases n with
    | zero => simp only [touch, fOb_eq]
    | succ m => simp only [touch]; split <;> simp only [ihl, ihr]

def blockOf : Value → Option Nat
  | .pointer (some a) => some a.block
  | .slice (some a) _ _ => some a.block
  | _ => none

/-- the state behind an operation, written out where it has changed -/
def touchAt {β : Type} (deep : Bool) (σ : St) (n : Nat) (k : St → β) : β := touch deep σ.hp n fun h => k ⟨h, σ.next⟩
def touchV {β : Type} (σ : St) (v : Option Value) (k : St → β) : β := match v with
  | some v => match blockOf v with
    | some n => touchAt false σ n k
    | none => k σ
  | none => k σ
def settle {β : Type} (ρ : Operand → Option Value) (op : Op) (old : Nat) (σ : St) (k : St → β) : β :=
  match op with
  | .store _ a _ => touchV σ (ρ a) k
  | .call { callee := .builtin _, args, argTypes := _ } => touchV σ ((args[0]?).bind ρ) fun σ => touchAt true σ old fun σ => fNat σ.next fun n => k ⟨σ.hp, n⟩
  | .alloc _ | .box .. | .buildSlice .. | .makeSlice .. | .makeMap .. => touchAt true σ old fun σ => fNat σ.next fun n => k ⟨σ.hp, n⟩
  | .convert _ _ x => touchV σ (ρ x) fun σ => touchAt true σ old fun σ => fNat σ.next fun n => k ⟨σ.hp, n⟩
  | _ => k σ

theorem touchAt_eq {β : Type} (deep : Bool) (σ : St) (n : Nat) (k : St → β) : touchAt deep σ n k = k σ := by simp only [touchAt, touch_eq]
theorem touchV_eq {β : Type} (σ : St) (v : Option Value) (k : St → β) : touchV σ v k = k σ := by
  unfold touchV
  split
  · split
    · rw [touchAt_eq]
    · rfl
  · rfl
theorem settle_eq {β : Type} (ρ : Operand → Option Value) (op : Op) (old : Nat) (σ : St) (k : St → β) : settle ρ op old σ k = k σ := by
  unfold settle
  split <;> simp only [touchV_eq, touchAt_eq, fNat_eq]

def runOps (P : Program) (tb : Tb) (call : CallF) (all : List Oper) : List Oper → Tm → St → Option (Tm × St)
  | [], t, σ => some (t, σ)
  | o :: rest, t, σ =>
    match wantA all t o with
    | true =>
      match execO P tb call (opd t) o.op σ with
      | some (v, σ') => settle (opd t) o.op σ.next σ' fun σ' => fVal v fun v => putK t o.dst v fun t' => runOps P tb call all rest t' σ'
      | none => none
    | false => putK t o.dst undef fun t' => runOps P tb call all rest t' σ

/-! ## what a call keeps -/
/-- what a call enters -/
def enterS (fn : Fn) (args : Array Value) : Sem Next :=
  match fn with
  | .func g => callFunc g args
  | .yield l => Instr.yield l args
  | _ => pure .skip

inductive FnR (φ : Ph) : Fn → Fn → Prop where
  | func (g) : FnR φ (.func g) (.func g)
  | yield {n b} (h : φ n = some (b, (0, 0))) : FnR φ (.yield n) (.yield b)

/-- the wide fence, within a round or not -/
def Fr (r : Option Nat) : Fence := { Fence.wide with round := r }

def CallOk (P : Program) (call : CallF) : Prop :=
  ∀ f args σ v σ', call f args σ = some (v, σ') → σ.next ≤ σ'.next ∧
    ∀ (r : Option Nat) (φ : Ph) (w : World) (f' : Fn) (args' : Array Value) (o : Oper) (a : Act) (K : Act → World → Prop) (Q : Exit → Act → World → Prop), FnR φ f f' → RL φ args args'.toList → RH φ σ w → NoName φ σ σ' →
      (∀ φ' v' w', Post φ σ w φ' σ' w' → RV φ' v v' → K (a.put o.dst v') w') → o.uponIn (Fr r) 0 P a K Q ((enterS f' args').run P w)

variable {φ ψ : Ph} {P : Program} {w w' : World} {σ σ' : St} {tb : Tb} {call : CallF}

theorem opd_rv {t : Tm} {a : Act} (ht : RL φ t a.tmps.toList) : ∀ x v, opd t x = some v → RV φ v (a.eval x) := by
  intro x v h
  cases x with
  | tmp k =>
    simp only [opd, Option.some.injEq] at h; subst h
    have := ht.getD (rv_undef φ) k
    simpa [Act.eval, Array.getD_eq_getD_getElem?] using this
  | const u =>
    simp only [opd] at h
    split at h
    · rename_i hf; cases h; exact flat_rv _ _ hf
    · cases h
  | global g => cases h
  | func f => cases h; exact .func _ (by intro l; simp) .nil .nil

theorem put_rl {t : Tm} {a : Act} (ht : RL φ t a.tmps.toList) {v v' : Value} (hv : RV φ v v') (dst : Option Tmp) : RL φ (putT t dst v) (a.put dst v').tmps.toList := by
  cases dst with
  | none => exact ht
  | some d =>
    simp only [putT, Act.put, Array.toList_setIfInBounds]
    exact ht.set hv d

theorem put_defers (a : Act) (dst : Option Tmp) (v : Value) : (a.put dst v).defers = a.defers := by cases dst <;> rfl

theorem want_eq {ops : List Oper} {t : Tm} {a : Act} (o : Oper) (hg : ∀ (j : Nat) (want : Bool) (d : Nat), o.guard = some (j, want) → (ops[j]?).bind (·.dst) = some d → ∀ v : Value, t[d]? = some v → ∃ v', a.tmps[d]? = some v' ∧ RV φ v v')
    (hn : ∀ d : Nat, t[d]? = none → a.tmps[d]? = none) :
    Region.wanted o (yielded ops.toArray a.tmps) = wantA ops t o := by
  unfold Region.wanted wantA
  cases hgd : o.guard with
  | none => rfl
  | some jw =>
    obtain ⟨j, want⟩ := jw
    simp only
    unfold yielded
    have e : (ops.toArray[j]?).bind (·.dst) = (ops[j]?).bind (·.dst) := by simp
    rw [e]
    cases hd : (ops[j]?).bind (·.dst) with
    | none => simp
    | some d =>
      simp only [Option.bind_some]
      cases ht : t[d]? with
      | none => rw [hn d ht]; simp
      | some v =>
        obtain ⟨v', h1, h2⟩ := hg j want d hgd hd v ht
        rw [h1]
        cases h2 <;> simp

theorem alloc_new {ρ : Operand → Option Value} {op : Op} {v : Value} (h : allocF tb ρ op σ = some (v, σ')) : ∃ C, σ' = σ.new C := by
  unfold allocF at h
  split at h <;> (repeat' (first | (cases h; done) | split at h)) <;>
    first
    | (cases h; exact ⟨_, rfl⟩)
    | (simp only [newVal, Option.some.injEq, Prod.mk.injEq] at h; obtain ⟨-, rfl⟩ := h; exact ⟨_, rfl⟩)

theorem no_defer {ρ : Operand → Option Value} {op : Op} {v : Value} (h : execO P tb call ρ op σ = some (v, σ')) : ∀ c, op ≠ .defer c := by
  rintro c rfl
  simp [execO, kindOf, actF] at h

/-- an operation, carried over -/
theorem sim_op (hok : tb.Ok P) (hcall : CallOk P call) (hRH : RH φ σ w) {ρ : Operand → Option Value} {a : Act} (hρ : ∀ x v, ρ x = some v → RV φ v (a.eval x))
    {o : Oper} {v : Value} (h : execO P tb call ρ o.op σ = some (v, σ')) (hN : NoName φ σ σ') {K : Act → World → Prop} {Q : Exit → Act → World → Prop}
    (hK : ∀ φ' v' w', Post φ σ w φ' σ' w' → RV φ' v v' → K (a.put o.dst v') w') (r : Option Nat) : o.wpIn (Fr r) 0 P a w K Q := by
  refine ⟨fun _ _ => trivial, ?_⟩
  rw [Oper.semAt_eq _ _ _ (no_defer h)]
  unfold execO at h
  split at h
  · split at h
    · rename_i u hu
      simp only [Option.some.injEq, Prod.mk.injEq] at h
      obtain ⟨rfl, rfl⟩ := h
      obtain ⟨v', g1, g2⟩ := sim_pure (w := w) hok hρ hu
      rw [g1]; exact hK _ _ _ (.refl hRH) g2
    · cases h
  · split at h
    · rename_i u hu
      simp only [Option.some.injEq, Prod.mk.injEq] at h
      obtain ⟨rfl, rfl⟩ := h
      obtain ⟨v', g1, g2⟩ := sim_pure (w := w) hok hρ hu
      rw [g1]; exact hK _ _ _ (.refl hRH) g2
    · split at h
      · rename_i u hu
        simp only [Option.some.injEq, Prod.mk.injEq] at h
        obtain ⟨rfl, rfl⟩ := h
        obtain ⟨v', g1, g2⟩ := sim_read hok hRH hρ hu
        rw [g1]; exact hK _ _ _ (.refl hRH) g2
      · cases h
  · have hN0 : φ σ.next = none := by
      obtain ⟨C, rfl⟩ := alloc_new h
      exact hN _ (Nat.le_refl _) (Nat.lt_succ_self _)
    obtain ⟨tot, C, v', w', g1, g2, g3⟩ := alloc_core (w := w) hok hρ h hN0
    rw [g1]; exact hK _ _ _ (g2.post hRH hN0) g3
  · obtain ⟨φ', w', g1, g2⟩ := sim_act hok hRH hρ h hN
    rcases g2 with ⟨v', g2, g3⟩ | ⟨g2, rfl⟩
    · rw [g2]; exact hK _ _ _ g1 g3
    · rw [g2]; exact hK _ _ _ g1 (rv_undef _)
  · split at h
    · rename_i g vs ht
      obtain ⟨-, hc⟩ := hcall _ _ _ _ _ h
      obtain ⟨dst, op, type, pos, after, guard⟩ := o
      rename_i hkd
      clear hkd
      unfold target at ht
      dsimp only at ht
      split at ht
      · rename_i f args argTypes
        have key : ∀ (g' : Fn) (fi ca : Array Value) (vs' us : List Value), ρ f = some (.func g' fi ca) → args.toList.mapM ρ = some vs' →
            (∀ fv', RV φ (.func g' fi ca) fv' → ∃ f' : Fn, FnR φ g f' ∧ ∃ args' : Array Value, RL φ vs args'.toList ∧
              (Deferred.ofValue fv' (args.map a.eval) >>= fun d => invoke d.target d.args).run P w = (enterS f' args').run P w) →
            Oper.uponIn (Fr r) 0 P { dst, op := .call { callee := .value f, args, argTypes := argTypes }, type, pos, after, guard } a K Q
              ((execOp a.eval { dst, op := .call { callee := .value f, args, argTypes }, type, pos, after, guard }).run P w) := by
          intro g' fi ca vs' us h1 h2 hgo
          have hrun : (execOp a.eval { dst, op := .call { callee := .value f, args, argTypes }, type, pos, after, guard }).run P w =
              (Deferred.ofValue (a.eval f) (args.map a.eval) >>= fun d => invoke d.target d.args).run P w := rfl
          rw [hrun]
          obtain ⟨f', k1, args', k2, k3⟩ := hgo _ (hρ _ _ h1)
          rw [k3]
          exact hc r φ w f' args' _ a K Q k1 k2 hRH hN hK
        split at ht
        · rename_i g' fi ca vs' h1 h2
          simp only [Option.some.injEq, Prod.mk.injEq] at ht
          obtain ⟨rfl, rfl⟩ := ht
          have hl := mapM_rl hρ _ _ h2
          rw [← toList_map] at hl
          refine key _ _ _ vs' [] h1 h2 ?_
          intro fv' hfv
          cases hfv with
          | func _ _ r1 r2 =>
            rename_i fi' ca' _
            refine ⟨_, .func _, (fi' ++ args.map a.eval) ++ ca', ?_, ?_⟩
            · have e : ((fi' ++ args.map a.eval) ++ ca').toList = fi'.toList ++ (args.map a.eval).toList ++ ca'.toList := by simp
              rw [e]
              exact (r1.append hl).append r2
            · simp only [Deferred.ofValue, Sem.run_bind, Sem.run_pure, Result.andThen_ok, invoke, enterS]
        · rename_i l fi ca vs' h1 h2
          simp only [Option.some.injEq, Prod.mk.injEq] at ht
          obtain ⟨rfl, rfl⟩ := ht
          have hl := mapM_rl hρ _ _ h2
          rw [← toList_map] at hl
          refine key _ _ _ _ [] h1 h2 ?_
          intro fv' hfv
          cases hfv with
          | func _ hy _ _ => exact absurd rfl (hy _)
          | yield hφ =>
            refine ⟨_, .yield hφ, args.map a.eval, hl, ?_⟩
            simp [Deferred.ofValue, Sem.run_bind, Sem.run_pure, Result.andThen_ok, invoke, enterS]
        · cases ht
      · cases ht
    · cases h

end Go.Det
