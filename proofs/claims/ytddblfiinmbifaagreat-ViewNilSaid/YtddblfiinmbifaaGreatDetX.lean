/- Det, part X: the same evaluation, quicker: frames and heaps as trees, in continuation form. -/
import Derived.Test.YtddblfiinmbifaaGreatDetW
namespace Go.Det

/-- the answer of a run -/
abbrev α : Type := Unit

/-! ## frames -/
inductive D4 where
  | a | b | c | d
  deriving DecidableEq
inductive Q where
  | l (v : Value)
  | n (a b c d : Q)

def D4.of (i : Nat) : D4 := match i % 4 with | 0 => .a | 1 => .b | 2 => .c | _ => .d
def digs : Nat → Nat → List D4
  | 0, _ => []
  | d + 1, i => D4.of i :: digs d (i / 4)
def pth (d n i : Nat) : Option (List D4) := match Nat.blt i n && Nat.blt i (4 ^ d) with | true => some (digs d i) | false => none

theorem D4.of_inj {i j : Nat} (h : D4.of i = D4.of j) : i % 4 = j % 4 := by
  have h1 : i % 4 < 4 := Nat.mod_lt _ (by decide)
  have h2 : j % 4 < 4 := Nat.mod_lt _ (by decide)
  unfold D4.of at h
  generalize i % 4 = a at *
  generalize j % 4 = b at *
  match a, b, h1, h2 with
  | 0, 0, _, _ | 1, 1, _, _ | 2, 2, _, _ | 3, 3, _, _ => rfl
  | 0, 1, _, _ | 0, 2, _, _ | 0, 3, _, _ | 1, 0, _, _ | 1, 2, _, _ | 1, 3, _, _ | 2, 0, _, _ | 2, 1, _, _ | 2, 3, _, _ | 3, 0, _, _ | 3, 1, _, _ | 3, 2, _, _ => cases h

theorem digs_inj : ∀ (d i j : Nat), i < 4 ^ d → j < 4 ^ d → digs d i = digs d j → i = j
  | 0, i, j, hi, hj, _ => by simp at hi hj; omega
  | d + 1, i, j, hi, hj, h => by
    simp only [digs, List.cons.injEq] at h
    have h1 := D4.of_inj h.1
    have h2 := digs_inj d (i / 4) (j / 4) (by rw [Nat.pow_succ] at hi; omega) (by rw [Nat.pow_succ] at hj; omega) h.2
    omega

theorem pth_some {d n i : Nat} {p : List D4} (h : pth d n i = some p) : i < n ∧ i < 4 ^ d ∧ p = digs d i := by
  unfold pth at h
  split at h
  · rename_i hb
    simp only [Bool.and_eq_true, Nat.blt_eq] at hb
    cases h; exact ⟨hb.1, hb.2, rfl⟩
  · cases h

def Q.get : List D4 → Q → Option Value
  | [], .l v => some v
  | .a :: p, .n a _ _ _ => Q.get p a
  | .b :: p, .n _ b _ _ => Q.get p b
  | .c :: p, .n _ _ c _ => Q.get p c
  | .d :: p, .n _ _ _ d => Q.get p d
  | _, _ => none

def Q.set : List D4 → Q → Value → Option Q
  | [], .l _, v => some (.l v)
  | .a :: p, .n a b c d, v => (Q.set p a v).map fun x => .n x b c d
  | .b :: p, .n a b c d, v => (Q.set p b v).map fun x => .n a x c d
  | .c :: p, .n a b c d, v => (Q.set p c v).map fun x => .n a b x d
  | .d :: p, .n a b c d, v => (Q.set p d v).map fun x => .n a b c x
  | _, _, _ => none

theorem Q.get_set : ∀ (p : List D4) (q : Q) (v : Value) (q' : Q), Q.set p q v = some q' → ∀ p', q'.get p' = if p' = p then some v else q.get p'
  | [], q, v, q', h, p' => by
    cases q with
    | n => simp [Q.set] at h
    | l w => simp only [Q.set, Option.some.injEq] at h; subst h; cases p' <;> simp [Q.get]
  | x :: p, q, v, q', h, p' => by
    cases q with
    | l w => cases x <;> simp [Q.set] at h
    | n a b c d =>
      cases x <;> simp only [Q.set, Option.map_eq_some_iff] at h <;> obtain ⟨y, h1, rfl⟩ := h <;>
        (have ih := Q.get_set p _ v y h1
         cases p' with
         | nil => simp [Q.get]
         | cons z p' => cases z <;> simp [Q.get, ih])

abbrev GK := Q → (Value → Option α) → Option α
noncomputable def getN (x : D4) : GK → GK :=
  D4.rec (motive := fun _ => GK → GK)
    (fun ih q k => Q.rec (motive := fun _ => Option α) (fun _ => none) (fun a _ _ _ _ _ _ _ => ih a k) q)
    (fun ih q k => Q.rec (motive := fun _ => Option α) (fun _ => none) (fun _ a _ _ _ _ _ _ => ih a k) q)
    (fun ih q k => Q.rec (motive := fun _ => Option α) (fun _ => none) (fun _ _ a _ _ _ _ _ => ih a k) q)
    (fun ih q k => Q.rec (motive := fun _ => Option α) (fun _ => none) (fun _ _ _ a _ _ _ _ => ih a k) q) x
noncomputable def getK (p : List D4) : Q → (Value → Option α) → Option α :=
  List.rec (motive := fun _ => Q → (Value → Option α) → Option α)
    (fun q k => Q.rec (motive := fun _ => Option α) (fun v => k v) (fun _ _ _ _ _ _ _ _ => none) q)
    (fun x _ ih => getN x ih) p

abbrev SK := Q → Value → (Q → Option α) → Option α
noncomputable def setN (x : D4) : SK → SK :=
  D4.rec (motive := fun _ => SK → SK)
    (fun ih q v k => Q.rec (motive := fun _ => Option α) (fun _ => none) (fun a b c d _ _ _ _ => ih a v fun y => k (.n y b c d)) q)
    (fun ih q v k => Q.rec (motive := fun _ => Option α) (fun _ => none) (fun a b c d _ _ _ _ => ih b v fun y => k (.n a y c d)) q)
    (fun ih q v k => Q.rec (motive := fun _ => Option α) (fun _ => none) (fun a b c d _ _ _ _ => ih c v fun y => k (.n a b y d)) q)
    (fun ih q v k => Q.rec (motive := fun _ => Option α) (fun _ => none) (fun a b c d _ _ _ _ => ih d v fun y => k (.n a b c y)) q) x
noncomputable def setK4 (p : List D4) : Q → Value → (Q → Option α) → Option α :=
  List.rec (motive := fun _ => Q → Value → (Q → Option α) → Option α)
    (fun q v k => Q.rec (motive := fun _ => Option α) (fun _ => k (.l v)) (fun _ _ _ _ _ _ _ _ => none) q)
    (fun x _ ih => setN x ih) p

theorem getK_some : ∀ (p : List D4) (q : Q) (k : Value → Option α) (r : α), getK p q k = some r → ∃ v, q.get p = some v ∧ k v = some r
  | [], q, k, r, h => by
    cases q with
    | l v => exact ⟨v, rfl, h⟩
    | n => cases h
  | x :: p, q, k, r, h => by
    cases q with
    | l v => cases x <;> cases h
    | n a b c d =>
      cases x
      · exact getK_some p a k r h
      · exact getK_some p b k r h
      · exact getK_some p c k r h
      · exact getK_some p d k r h

theorem setK4_some : ∀ (p : List D4) (q : Q) (v : Value) (k : Q → Option α) (r : α), setK4 p q v k = some r → ∃ q', q.set p v = some q' ∧ k q' = some r
  | [], q, v, k, r, h => by
    cases q with
    | l w => exact ⟨.l v, rfl, h⟩
    | n => cases h
  | x :: p, q, v, k, r, h => by
    cases q with
    | l w => cases x <;> cases h
    | n a b c d =>
      cases x
      · obtain ⟨y, h1, h2⟩ := setK4_some p a v _ r h; exact ⟨_, by simp only [Q.set, h1, Option.map_some], h2⟩
      · obtain ⟨y, h1, h2⟩ := setK4_some p b v _ r h; exact ⟨_, by simp only [Q.set, h1, Option.map_some], h2⟩
      · obtain ⟨y, h1, h2⟩ := setK4_some p c v _ r h; exact ⟨_, by simp only [Q.set, h1, Option.map_some], h2⟩
      · obtain ⟨y, h1, h2⟩ := setK4_some p d v _ r h; exact ⟨_, by simp only [Q.set, h1, Option.map_some], h2⟩

/-- a tree reads as a frame of n slots -/
def Rep (d n : Nat) (q : Q) (t : Tm) : Prop := t.length = n ∧ ∀ i p v, pth d n i = some p → q.get p = some v → t[i]? = some v

theorem Rep.set {d n j : Nat} {q q' : Q} {t : Tm} {p : List D4} {v : Value} (h : Rep d n q t) (hp : pth d n j = some p) (hq : q.set p v = some q') : Rep d n q' (t.set j v) := by
  refine ⟨by simp [h.1], fun i p' u hp' hu => ?_⟩
  obtain ⟨h1, h2, rfl⟩ := pth_some hp
  obtain ⟨h3, h4, rfl⟩ := pth_some hp'
  rw [Q.get_set _ _ _ _ hq] at hu
  split at hu
  · rename_i e
    have := digs_inj d _ _ h4 h2 e
    subst this
    cases hu
    rw [List.getElem?_set_self (by rw [h.1]; exact h1)]
  · rename_i e
    rw [List.getElem?_set_ne (by intro e'; subst e'; exact e rfl)]
    exact h.2 _ _ _ hp' hu

noncomputable def rdK (d n : Nat) (q : Q) (x : Operand) (k : Value → Option α) : Option α :=
  Operand.rec (motive := fun _ => Option α)
    (fun i => Option.rec (motive := fun _ => Option α) none (fun p => getK p q k) (pth d n i))
    (fun v => Bool.rec (motive := fun _ => Option α) none (k v) (flat v))
    (fun _ => none)
    (fun f => k (.func (.func f) #[] #[])) x

theorem rdK_some {d n : Nat} {q : Q} {t : Tm} (hR : Rep d n q t) {x : Operand} {k : Value → Option α} {r : α} (h : rdK d n q x k = some r) : ∃ v, opd t x = some v ∧ k v = some r := by
  cases x with
  | tmp i =>
    simp only [rdK] at h
    cases hp : pth d n i with
    | none => rw [hp] at h; cases h
    | some p =>
      rw [hp] at h
      obtain ⟨v, h1, h2⟩ := getK_some p q k r h
      refine ⟨v, ?_, h2⟩
      simp only [opd, List.getD, hR.2 _ _ _ hp h1, Option.getD_some]
  | const v =>
    simp only [rdK] at h
    cases hf : flat v with
    | false => rw [hf] at h; cases h
    | true => rw [hf] at h; exact ⟨v, by simp [opd, hf], h⟩
  | global g => cases h
  | func f => exact ⟨_, rfl, h⟩

/-- several -/
noncomputable def rdsK (d n : Nat) (q : Q) (l : List Operand) : (List Value → Option α) → Option α :=
  List.rec (motive := fun _ => (List Value → Option α) → Option α) (fun k => k []) (fun x _ ih k => rdK d n q x fun v => ih fun vs => k (v :: vs)) l

theorem rdsK_some {d n : Nat} {q : Q} {t : Tm} (hR : Rep d n q t) : ∀ (l : List Operand) (k : List Value → Option α) (r : α), rdsK d n q l k = some r → ∃ vs, l.mapM (opd t) = some vs ∧ k vs = some r
  | [], k, r, h => ⟨[], rfl, h⟩
  | x :: l, k, r, h => by
    obtain ⟨v, h1, h2⟩ := rdK_some hR h
    obtain ⟨vs, h3, h4⟩ := rdsK_some hR l _ r h2
    exact ⟨v :: vs, by simp [h1, h3], h4⟩

noncomputable def wrK (d n : Nat) (q : Q) (dst : Option Tmp) (v : Value) (k : Q → Option α) : Option α :=
  Option.rec (motive := fun _ => Option α) (k q) (fun j => Option.rec (motive := fun _ => Option α) none (fun p => setK4 p q v k) (pth d n j)) dst

theorem wrK_some {d n : Nat} {q : Q} {t : Tm} (hR : Rep d n q t) {dst : Option Tmp} {v : Value} {k : Q → Option α} {r : α} (h : wrK d n q dst v k = some r) :
    ∃ q', Rep d n q' (putT t dst v) ∧ k q' = some r := by
  cases dst with
  | none => exact ⟨q, hR, h⟩
  | some j =>
    simp only [wrK] at h
    cases hp : pth d n j with
    | none => rw [hp] at h; cases h
    | some p =>
      rw [hp] at h
      obtain ⟨q', h1, h2⟩ := setK4_some p q v k r h
      exact ⟨q', hR.set hp h1, h2⟩

/-! ## heaps -/
noncomputable def getO (h : Tr Ob) : Nat → (Ob → Option α) → Option α :=
  Tr.rec (motive := fun _ => Nat → (Ob → Option α) → Option α) (fun _ _ => none)
    (fun _ v _ ihl ihr n k => Nat.rec (motive := fun _ => Option α) (Option.rec (motive := fun _ => Option α) none k v)
      (fun m _ => Bool.rec (motive := fun _ => Option α) (ihr (m / 2) k) (ihl (m / 2) k) (Nat.beq (m % 2) 0)) n) h

theorem Tr.get_succ {β : Type} (l r : Tr β) (v : Option β) (m : Nat) : (Tr.node l v r).get (m + 1) = if m % 2 = 0 then l.get (m / 2) else r.get (m / 2) := by
  simp only [Tr.get, Nat.add_one_ne_zero, if_false]
  by_cases h : m % 2 = 0
  · rw [if_pos (by omega), if_pos h, show (m + 1) / 2 = m / 2 by omega]
  · rw [if_neg (by omega), if_neg h, show (m + 1) / 2 - 1 = m / 2 by omega]

theorem getO_some : ∀ (h : Tr Ob) (n : Nat) (k : Ob → Option α) (r : α), getO h n k = some r → ∃ B, h.get n = some B ∧ k B = some r := by
  intro h
  induction h with
  | nil => intro n k r e; cases e
  | node l v rr ihl ihr =>
    intro n k r e
    cases n with
    | zero =>
      simp only [getO] at e
      cases v with
      | none => cases e
      | some B => exact ⟨B, by simp [Tr.get], e⟩
    | succ m =>
      rw [Tr.get_succ]
      simp only [getO] at e
      cases hb : Nat.beq (m % 2) 0 with
      | true =>
        rw [hb] at e
        rw [if_pos (Nat.eq_of_beq_eq_true hb)]
        exact ihl _ _ _ e
      | false =>
        rw [hb] at e
        rw [if_neg (Nat.ne_of_beq_eq_false hb)]
        exact ihr _ _ _ e

noncomputable def putO (h : Tr Ob) : Nat → Ob → (Tr Ob → Option α) → Option α :=
  Tr.rec (motive := fun _ => Nat → Ob → (Tr Ob → Option α) → Option α) (fun _ _ _ => none)
    (fun l v r ihl ihr n B k => Nat.rec (motive := fun _ => Option α) (k (.node l (some B) r))
      (fun m _ => Bool.rec (motive := fun _ => Option α) (ihr (m / 2) B fun y => k (.node l v y)) (ihl (m / 2) B fun y => k (.node y v r)) (Nat.beq (m % 2) 0)) n) h

theorem putO_some : ∀ (h : Tr Ob) (n : Nat) (B : Ob) (k : Tr Ob → Option α) (r : α), putO h n B k = some r → ∀ f, n < f → k (Tr.setF f h n (some B)) = some r := by
  intro h
  induction h with
  | nil => intro n B k r e; cases e
  | node l v rr ihl ihr =>
    intro n B k r e f hf
    cases f with
    | zero => omega
    | succ f =>
      cases n with
      | zero =>
        simp only [Tr.setF, if_true]
        exact e
      | succ m =>
        simp only [putO] at e
        simp only [Tr.setF, Nat.add_one_ne_zero, if_false]
        cases hb : Nat.beq (m % 2) 0 with
        | true =>
          rw [hb] at e
          have h0 := Nat.eq_of_beq_eq_true hb
          rw [if_pos (by omega), show (m + 1) / 2 = m / 2 by omega]
          exact ihl _ _ _ _ e f (by omega)
        | false =>
          rw [hb] at e
          have h0 := Nat.ne_of_beq_eq_false hb
          rw [if_neg (by omega), show (m + 1) / 2 - 1 = m / 2 by omega]
          exact ihr _ _ _ _ e f (by omega)

/-- the i-th of a list -/
noncomputable def nthK (l : List Value) : Nat → (Value → Option α) → Option α :=
  List.rec (motive := fun _ => Nat → (Value → Option α) → Option α) (fun _ _ => none)
    (fun c _ ih n k => Nat.rec (motive := fun _ => Option α) (k c) (fun m _ => ih m k) n) l

theorem nthK_some : ∀ (l : List Value) (n : Nat) (k : Value → Option α) (r : α), nthK l n k = some r → ∃ v, l[n]? = some v ∧ k v = some r
  | [], n, k, r, h => by cases h
  | c :: l, 0, k, r, h => ⟨c, rfl, h⟩
  | c :: l, n + 1, k, r, h => by
    obtain ⟨v, h1, h2⟩ := nthK_some l n k r h
    exact ⟨v, by simpa using h1, h2⟩

noncomputable def setL (l : List Value) : Nat → Value → (List Value → Option α) → Option α :=
  List.rec (motive := fun _ => Nat → Value → (List Value → Option α) → Option α) (fun _ _ _ => none)
    (fun c l ih n v k => Nat.rec (motive := fun _ => Option α) (k (v :: l)) (fun m _ => ih m v fun l' => k (c :: l')) n) l

theorem setL_some : ∀ (l : List Value) (n : Nat) (v : Value) (k : List Value → Option α) (r : α), setL l n v k = some r → ∃ l', setAt l n v = some l' ∧ k l' = some r
  | [], n, v, k, r, h => by cases h
  | c :: l, 0, v, k, r, h => ⟨v :: l, rfl, h⟩
  | c :: l, n + 1, v, k, r, h => by
    obtain ⟨l', h1, h2⟩ := setL_some l n v _ r h
    exact ⟨c :: l', by simp only [setAt, h1], h2⟩

end Go.Det
