/- Det, part A: a trie, an abstract heap, the relation between abstract and concrete values and heaps, and what a step keeps. -/
import Derived.Calls
import Derived.Laws.Sem
namespace Go.Det

/-! ## a trie -/
inductive Tr (α : Type) where
  | nil
  | node (l : Tr α) (v : Option α) (r : Tr α)

def Tr.get {α : Type} : Tr α → Nat → Option α
  | .nil, _ => none
  | .node l v r, n => if n = 0 then v else if n % 2 = 1 then l.get (n / 2) else r.get (n / 2 - 1)

def Tr.setF {α : Type} : Nat → Tr α → Nat → Option α → Tr α
  | 0, h, _, _ => h
  | f + 1, .nil, n, v =>
    if n = 0 then .node .nil v .nil else if n % 2 = 1 then .node (Tr.setF f .nil (n / 2) v) none .nil
    else .node .nil none (Tr.setF f .nil (n / 2 - 1) v)
  | f + 1, .node l x r, n, v =>
    if n = 0 then .node l v r else if n % 2 = 1 then .node (Tr.setF f l (n / 2) v) x r
    else .node l x (Tr.setF f r (n / 2 - 1) v)

def Tr.set {α : Type} (h : Tr α) (n : Nat) (v : Option α) : Tr α := Tr.setF (n + 1) h n v

theorem Tr.get_setF {α : Type} : ∀ (f : Nat) (h : Tr α) (n : Nat) (v : Option α) (m : Nat), n < f →
    (Tr.setF f h n v).get m = if m = n then v else h.get m := by
  intro f
  induction f with
  | zero => intro h n v m hn; omega
  | succ f ih =>
    intro h n v m hn
    cases h with
    | nil =>
      simp only [Tr.setF]
      by_cases h0 : n = 0
      · subst h0
        by_cases hm : m = 0
        · subst hm; simp [Tr.get]
        · simp [Tr.get, hm]
      · rw [if_neg h0]
        by_cases h1 : n % 2 = 1
        · rw [if_pos h1]
          by_cases hm : m = 0
          · subst hm; simp [Tr.get]; intro h; omega
          · by_cases hm1 : m % 2 = 1
            · simp only [Tr.get, hm, hm1, if_true, if_false]
              rw [ih _ _ _ _ (by omega)]
              by_cases e : m = n
              · subst e; simp
              · rw [if_neg (by omega), if_neg e]; simp [Tr.get]
            · simp only [Tr.get, hm, hm1, if_false]
              rw [if_neg (by intro e; subst e; exact hm1 h1)]
        · rw [if_neg h1]
          by_cases hm : m = 0
          · subst hm; simp [Tr.get]; intro h; omega
          · by_cases hm1 : m % 2 = 1
            · simp only [Tr.get, hm, hm1, if_true, if_false]
              rw [if_neg (by intro e; subst e; exact h1 hm1)]
            · simp only [Tr.get, hm, hm1, if_false]
              rw [ih _ _ _ _ (by omega)]
              by_cases e : m = n
              · subst e; simp
              · rw [if_neg (by omega), if_neg e]; simp [Tr.get]
    | node l x r =>
      simp only [Tr.setF]
      by_cases h0 : n = 0
      · subst h0
        by_cases hm : m = 0
        · subst hm; simp [Tr.get]
        · simp [Tr.get, hm]
      · rw [if_neg h0]
        by_cases h1 : n % 2 = 1
        · rw [if_pos h1]
          by_cases hm : m = 0
          · subst hm; simp [Tr.get]; intro h; omega
          · by_cases hm1 : m % 2 = 1
            · simp only [Tr.get, hm, hm1, if_true, if_false]
              rw [ih _ _ _ _ (by omega)]
              by_cases e : m = n
              · subst e; simp
              · rw [if_neg (by omega), if_neg e]
            · simp only [Tr.get, hm, hm1, if_false]
              rw [if_neg (by intro e; subst e; exact hm1 h1)]
        · rw [if_neg h1]
          by_cases hm : m = 0
          · subst hm; simp [Tr.get]; intro h; omega
          · by_cases hm1 : m % 2 = 1
            · simp only [Tr.get, hm, hm1, if_true, if_false]
              rw [if_neg (by intro e; subst e; exact h1 hm1)]
            · simp only [Tr.get, hm, hm1, if_false]
              rw [ih _ _ _ _ (by omega)]
              by_cases e : m = n
              · subst e; simp
              · rw [if_neg (by omega), if_neg e]

theorem Tr.get_set {α : Type} (h : Tr α) (n : Nat) (v : Option α) (m : Nat) :
    (h.set n v).get m = if m = n then v else h.get m := Tr.get_setF _ _ _ _ _ (Nat.lt_succ_self n)

/-! ## the abstract heap -/
inductive Ob where
  | cells (cs : List Value)
  | map (es : List MapEntry) (clock : Nat)
  | loop (ps : Array Tmp) (t : List Value) (asg body : Code) (st : LoopState) (pend : Option Code)

structure St where
  hp : Tr Ob
  next : Nat

/-- a capacity that is not known -/
def unk : Nat := 1180591620717411303424

/-- phi: which block an abstract name is, by how much its cells are shifted there, and how many cells the block has -/
abbrev Ph := Nat → Option (Nat × (Nat × Nat))

mutual
inductive RV (φ : Ph) : Value → Value → Prop where
  | bool (b) : RV φ (.bool b) (.bool b)
  | int (k n) : RV φ (.int k n) (.int k n)
  | string (s) : RV φ (.string s) (.string s)
  | ptrNil : RV φ (.pointer none) (.pointer none)
  | ptr {n o b d} (h : φ n = some (b, d)) : RV φ (.pointer (some ⟨n, o, none⟩)) (.pointer (some ⟨b, o + d.1, none⟩))
  | sliceNil : RV φ (.slice none 0 0) (.slice none 0 0)
  | slice {n o b d} (len cap) (h : φ n = some (b, d)) (hc : len ≤ cap) (hu : cap < unk) :
      RV φ (.slice (some ⟨n, o, none⟩) len cap) (.slice (some ⟨b, o + d.1, none⟩) len cap)
  | sliceUnk {n o b d} (len cap k) (h : φ n = some (b, d)) (h0 : 0 < len) (hc : len ≤ cap) (ht : o + d.1 + cap * k ≤ d.2) :
      RV φ (.slice (some ⟨n, o, none⟩) len (unk + k)) (.slice (some ⟨b, o + d.1, none⟩) len cap)
  | sliceEmpty {n o} (a : Addr) (cap k) (ha : a.spot = none) : RV φ (.slice (some ⟨n, o, none⟩) 0 (unk + k)) (.slice (some a) 0 cap)
  | func (fn) {fi fi' ca ca' : Array Value} (hy : ∀ l, fn ≠ .yield l) (h₁ : RL φ fi.toList fi'.toList) (h₂ : RL φ ca.toList ca'.toList) :
      RV φ (.func fn fi ca) (.func fn fi' ca')
  | yield {n b} (h : φ n = some (b, (0, 0))) : RV φ (.func (.yield n) #[] #[]) (.func (.yield b) #[] #[])
  | nilFunc : RV φ .nilFunc .nilFunc
  | iface (t) {v v'} (h : RV φ v v') : RV φ (.iface t v) (.iface t v')
  | nilIface : RV φ .nilIface .nilIface
  | mapNil : RV φ (.map none) (.map none)
  | map {n b} (h : φ n = some (b, (0, 0))) : RV φ (.map (some n)) (.map (some b))
  | agg {cs cs' : Array Value} (h : RL φ cs.toList cs'.toList) : RV φ (.agg cs) (.agg cs')
  | tuple {cs cs' : Array Value} (h : RL φ cs.toList cs'.toList) : RV φ (.tuple cs) (.tuple cs')
inductive RL (φ : Ph) : List Value → List Value → Prop where
  | nil : RL φ [] []
  | cons {v v' l l'} (h : RV φ v v') (hl : RL φ l l') : RL φ (v :: l) (v' :: l')
end

def PhLe (φ ψ : Ph) : Prop := ∀ n x, φ n = some x → ψ n = some x

theorem PhLe.refl (φ : Ph) : PhLe φ φ := fun _ _ h => h
theorem PhLe.trans {φ ψ χ : Ph} (h : PhLe φ ψ) (h' : PhLe ψ χ) : PhLe φ χ := fun n x e => h' n x (h n x e)

theorem RV.mono_all {φ ψ : Ph} (hle : PhLe φ ψ) : (∀ v v', RV φ v v' → RV ψ v v') ∧ (∀ l l', RL φ l l' → RL ψ l l') := by
  have H := @RV.rec φ (fun v v' _ => RV ψ v v') (fun l l' _ => RL ψ l l')
    .bool .int .string .ptrNil (fun h => .ptr (hle _ _ h)) .sliceNil (fun len cap h hc hu => .slice len cap (hle _ _ h) hc hu)
    (fun len cap k h h0 hc ht => .sliceUnk len cap k (hle _ _ h) h0 hc ht) (fun a cap k ha => .sliceEmpty a cap k ha)
    (fun fn _ _ _ _ hy _ _ h1 h2 => .func fn hy h1 h2) (fun h => .yield (hle _ _ h)) .nilFunc (fun t _ _ _ ih => .iface t ih) .nilIface .mapNil (fun h => .map (hle _ _ h))
    (fun _ ih => .agg ih) (fun _ ih => .tuple ih) .nil (fun _ _ h1 h2 => .cons h1 h2)
  have H2 := @RL.rec φ (fun v v' _ => RV ψ v v') (fun l l' _ => RL ψ l l')
    .bool .int .string .ptrNil (fun h => .ptr (hle _ _ h)) .sliceNil (fun len cap h hc hu => .slice len cap (hle _ _ h) hc hu)
    (fun len cap k h h0 hc ht => .sliceUnk len cap k (hle _ _ h) h0 hc ht) (fun a cap k ha => .sliceEmpty a cap k ha)
    (fun fn _ _ _ _ hy _ _ h1 h2 => .func fn hy h1 h2) (fun h => .yield (hle _ _ h)) .nilFunc (fun t _ _ _ ih => .iface t ih) .nilIface .mapNil (fun h => .map (hle _ _ h))
    (fun _ ih => .agg ih) (fun _ ih => .tuple ih) .nil (fun _ _ h1 h2 => .cons h1 h2)
  exact ⟨fun _ _ h => H h, fun _ _ h => H2 h⟩

theorem RV.mono {φ ψ : Ph} (hle : PhLe φ ψ) {v v' : Value} (h : RV φ v v') : RV ψ v v' := (RV.mono_all hle).1 _ _ h
theorem RL.mono {φ ψ : Ph} (hle : PhLe φ ψ) {l l' : List Value} (h : RL φ l l') : RL ψ l l' := (RV.mono_all hle).2 _ _ h

end Go.Det
