/- Det, part Y: operations in continuation form. -/
import Derived.Test.YtddblfiinmbifaaGreatDetX
namespace Go.Det


noncomputable def forceN (n : Nat) (k : Nat → Option α) : Option α := Nat.rec (motive := fun _ => Option α) (k 0) (fun m _ => k (Nat.succ m)) n
theorem forceN_eq (n : Nat) (k : Nat → Option α) : forceN n k = k n := by cases n <;> rfl
noncomputable def forceB (b : Bool) (k : Bool → Option α) : Option α := Bool.rec (motive := fun _ => Option α) (k false) (k true) b
theorem forceB_eq (b : Bool) (k : Bool → Option α) : forceB b k = k b := by cases b <;> rfl
noncomputable def forceI (n : Int) (k : Int → Option α) : Option α :=
  Int.rec (motive := fun _ => Option α) (fun m => forceN m fun m => k (.ofNat m)) (fun m => forceN m fun m => k (.negSucc m)) n
theorem forceI_eq (n : Int) (k : Int → Option α) : forceI n k = k n := by cases n <;> simp only [forceI, forceN_eq]

/-! ## arithmetic -/
def kix : IntKind → Nat
  | .i8 => 0 | .i16 => 1 | .i32 => 2 | .i64 => 3 | .u8 => 4 | .u16 => 5 | .u32 => 6 | .u64 => 7
theorem kix_inj {a b : IntKind} (h : Nat.beq (kix a) (kix b) = true) : a = b := by cases a <;> cases b <;> first | rfl | (exact absurd h (by decide))

noncomputable def wrapK (kd : IntKind) (n : Int) (k : Value → Option α) : Option α :=
  Int.rec (motive := fun _ => Option α)
    (fun m => Bool.rec (motive := fun _ => Option α) (forceI (kd.wrap (.ofNat m)) fun z => k (.int kd z)) (forceN m fun m => k (.int kd (.ofNat m))) (Nat.blt m (half kd)))
    (fun m => forceI (wrapF kd (.negSucc m)) fun z => k (.int kd z)) n

theorem wrapK_eq (kd : IntKind) (n : Int) (k : Value → Option α) : wrapK kd n k = k (.int kd (wrapF kd n)) := by
  cases n with
  | ofNat m =>
    simp only [wrapK, wrapF]
    cases hb : Nat.blt m (half kd) with
    | true => simp only [forceN_eq, if_true]
    | false => simp only [forceI_eq, Bool.false_eq_true, if_false]
  | negSucc m => simp only [wrapK, forceI_eq]

def ltI : Int → Int → Bool
  | .ofNat a, .ofNat b => Nat.blt a b
  | .ofNat _, .negSucc _ => false
  | .negSucc _, .ofNat _ => true
  | .negSucc a, .negSucc b => Nat.blt b a
theorem ltI_eq (a b : Int) : ltI a b = decide (a < b) := by
  cases a <;> cases b <;> simp only [ltI] <;> rw [Bool.eq_iff_iff] <;> simp only [Nat.blt_eq, decide_eq_true_eq, Bool.false_eq_true, false_iff, true_iff, Int.ofNat_eq_natCast] <;> omega
def eqI : Int → Int → Bool
  | .ofNat a, .ofNat b => Nat.beq a b
  | .negSucc a, .negSucc b => Nat.beq a b
  | _, _ => false
theorem eqI_eq (a b : Int) : eqI a b = (a == b) := by
  cases a <;> cases b <;> simp only [eqI] <;> rw [Bool.eq_iff_iff] <;> simp only [Nat.beq_eq, beq_iff_eq, Bool.false_eq_true, false_iff, Int.ofNat_eq_natCast] <;> omega

/-- nonnegative sums, products, quotients, rests written out; z where nothing is known -/
noncomputable def iopK (b : BinOp) (kd : IntKind) (x y : Int) (k : Value → Option α) (z : Option α) : Option α :=
  match b with
  | .add => wrapK kd (x + y) k
  | .sub => wrapK kd (x - y) k
  | .mul => wrapK kd (x * y) k
  | .quo => Bool.rec (motive := fun _ => Option α) (wrapK kd (x.tdiv y) k) none (eqI y 0)
  | .rem => Bool.rec (motive := fun _ => Option α) (forceI (x.tmod y) fun r => k (.int kd r)) none (eqI y 0)
  | .eql => forceB (eqI x y) fun b => k (.bool b)
  | .neq => forceB (eqI x y) fun b => k (.bool (!b))
  | .lss => forceB (ltI x y) fun b => k (.bool b)
  | .leq => forceB (ltI y x) fun b => k (.bool (!b))
  | .gtr => forceB (ltI y x) fun b => k (.bool b)
  | .geq => forceB (ltI x y) fun b => k (.bool (!b))
  | _ => z

theorem iopK_some {b : BinOp} {kd : IntKind} {x y : Int} {k : Value → Option α} {z : Option α} {r : α} (h : iopK b kd x y k z = some r) :
    (b ≠ .shl ∧ b ≠ .shr ∧ ∃ v, iop b kd x y = some v ∧ k v = some r) ∨ z = some r := by
  have e0 : eqI y 0 = decide (y = 0) := by rw [eqI_eq]; rfl
  cases b <;> simp only [iopK, wrapK_eq, forceB_eq, forceI_eq] at h <;> first
    | exact .inr h
    | (refine .inl ⟨by decide, by decide, _, rfl, ?_⟩
       first
       | exact h
       | (rw [eqI_eq] at h; exact h)
       | (rw [ltI_eq] at h; exact h)
       | (rw [eqI_eq] at h; simpa [bne] using h)
       | (rw [ltI_eq] at h; rw [← h]; congr 2; rw [Bool.eq_iff_iff]; simp))
    | (rw [e0] at h
       by_cases hy : y = 0
       · simp only [hy, decide_true] at h; cases h
       · simp only [hy, decide_false] at h
         exact .inl ⟨by decide, by decide, _, by simp only [iop, hy, if_false], h⟩)

noncomputable def binK (b : BinOp) (x y : Value) (k : Value → Option α) (z : Option α) : Option α :=
  match x, y with
  | .int kx a, .int ky c => Bool.rec (motive := fun _ => Option α) z (iopK b kx a c k z) (Nat.beq (kix kx) (kix ky))
  | _, _ => z

theorem binK_some {P : Program} {tb : Tb} {b : BinOp} {ty : TypeId} {ox oy : Operand} {x y : Value} {k : Value → Option α} {z : Option α} {r : α} (h : binK b x y k z = some r) :
    (∃ v, binF P tb b ty ox oy x y = some v ∧ k v = some r) ∨ z = some r := by
  unfold binK at h
  split at h
  · rename_i kx a ky c
    cases hk : Nat.beq (kix kx) (kix ky) with
    | false => rw [hk] at h; exact .inr h
    | true =>
      rw [hk] at h
      have := kix_inj hk
      subst this
      rcases iopK_some h with ⟨h1, h2, v, h3, h4⟩ | h5
      · refine .inl ⟨v, ?_, h4⟩
        simp only [binF]
        cases b <;> first | exact absurd rfl h1 | exact absurd rfl h2 | (simp only [if_true]; exact h3)
      · exact .inr h5
  · exact .inr h

end Go.Det
