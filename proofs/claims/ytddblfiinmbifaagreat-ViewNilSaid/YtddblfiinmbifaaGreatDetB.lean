/- Det, part B: lists of related values, heaps, and what a step keeps. -/
import Derived.Test.YtddblfiinmbifaaGreatDetA
namespace Go.Det

variable {φ ψ : Ph}

theorem RL.length {l l' : List Value} (h : RL φ l l') : l.length = l'.length := by
  induction l generalizing l' with
  | nil => cases h; rfl
  | cons v l ih => cases h with | cons h1 h2 => simp [ih h2]

theorem RL.append {l l' m m' : List Value} (h : RL φ l l') (h' : RL φ m m') : RL φ (l ++ m) (l' ++ m') := by
  induction l generalizing l' with
  | nil => cases h; exact h'
  | cons v l ih => cases h with | cons h1 h2 => exact .cons h1 (ih h2)

theorem RL.get {l l' : List Value} (h : RL φ l l') {i : Nat} {v : Value} (hi : l[i]? = some v) : ∃ v', l'[i]? = some v' ∧ RV φ v v' := by
  induction l generalizing l' i with
  | nil => simp at hi
  | cons x l ih =>
    cases h with
    | cons h1 h2 =>
      cases i with
      | zero => simp at hi; subst hi; exact ⟨_, rfl, h1⟩
      | succ i => simp at hi ⊢; exact ih h2 hi

theorem RL.get_none {l l' : List Value} (h : RL φ l l') {i : Nat} (hi : l[i]? = none) : l'[i]? = none := by
  have := h.length
  simp at hi ⊢; omega

theorem RL.getD {l l' : List Value} (h : RL φ l l') {x x' : Value} (hx : RV φ x x') (i : Nat) : RV φ (l.getD i x) (l'.getD i x') := by
  cases hi : l[i]? with
  | none =>
    have := h.get_none hi
    simpa [List.getD, hi, this] using hx
  | some v =>
    obtain ⟨v', hv, hr⟩ := h.get hi
    simpa [List.getD, hi, hv] using hr

theorem RL.take {l l' : List Value} (h : RL φ l l') (n : Nat) : RL φ (l.take n) (l'.take n) := by
  induction l generalizing l' n with
  | nil => cases h; simp; exact .nil
  | cons v l ih =>
    cases h with
    | cons h1 h2 => cases n with
      | zero => simp; exact .nil
      | succ n => simp; exact .cons h1 (ih h2 n)

theorem RL.drop {l l' : List Value} (h : RL φ l l') (n : Nat) : RL φ (l.drop n) (l'.drop n) := by
  induction l generalizing l' n with
  | nil => cases h; simp; exact .nil
  | cons v l ih =>
    cases h with
    | cons h1 h2 => cases n with
      | zero => simp; exact .cons h1 h2
      | succ n => simp; exact ih h2 n

theorem RL.set {l l' : List Value} (h : RL φ l l') {v v' : Value} (hv : RV φ v v') (i : Nat) : RL φ (l.set i v) (l'.set i v') := by
  induction l generalizing l' i with
  | nil => cases h; simp; exact .nil
  | cons x l ih =>
    cases h with
    | cons h1 h2 => cases i with
      | zero => simp; exact .cons hv h2
      | succ i => simp; exact .cons h1 (ih h2 i)

theorem RL.of_get {l l' : List Value} (hl : l.length = l'.length) (h : ∀ (i : Nat) (v v' : Value), l[i]? = some v → l'[i]? = some v' → RV φ v v') : RL φ l l' := by
  induction l generalizing l' with
  | nil => cases l' with
    | nil => exact .nil
    | cons _ _ => simp at hl
  | cons x l ih => cases l' with
    | nil => simp at hl
    | cons y l' => exact .cons (h 0 x y rfl rfl) (ih (by simpa using hl) fun i v v' h1 h2 => h (i + 1) v v' (by simpa using h1) (by simpa using h2))

theorem RL.replicate {v v' : Value} (h : RV φ v v') (n : Nat) : RL φ (List.replicate n v) (List.replicate n v') := by
  induction n with
  | zero => exact .nil
  | succ n ih => simp only [List.replicate_succ]; exact .cons h ih

theorem RL.reverse {l l' : List Value} (h : RL φ l l') : RL φ l.reverse l'.reverse := by
  induction l generalizing l' with
  | nil => cases h; simp; exact .nil
  | cons v l ih => cases h with | cons h1 h2 => simp only [List.reverse_cons]; exact (ih h2).append (.cons h1 .nil)

theorem RL.map {α : Type} (l : List α) {f g : α → Value} (h : ∀ x ∈ l, RV φ (f x) (g x)) : RL φ (l.map f) (l.map g) := by
  induction l with
  | nil => exact .nil
  | cons x l ih => exact .cons (h x (by simp)) (ih fun y hy => h y (by simp [hy]))

/- values without addresses -/
mutual
def flat : Value → Bool
  | .bool _ | .int _ _ | .string _ | .pointer none | .nilFunc | .nilIface | .map none => true
  | .slice none n c => n == 0 && c == 0
  | .iface _ v => flat v
  | .agg cs => flatA cs
  | .tuple cs => flatA cs
  | .func (.yield _) _ _ => false
  | .func _ fi ca => flatA fi && flatA ca
  | _ => false
def flatA : Array Value → Bool
  | ⟨l⟩ => flatL l
def flatL : List Value → Bool
  | [] => true
  | v :: l => flat v && flatL l
end

mutual
theorem flat_rv (φ : Ph) : ∀ v, flat v = true → RV φ v v
  | .bool b, _ => .bool b
  | .int k n, _ => .int k n
  | .float k b, h => by simp [flat] at h
  | .complex k a b, h => by simp [flat] at h
  | .string s, _ => .string s
  | .pointer none, _ => .ptrNil
  | .pointer (some a), h => by simp [flat] at h
  | .slice none n c, h => by
    simp [flat] at h; obtain ⟨rfl, rfl⟩ := h; exact .sliceNil
  | .slice (some a) n c, h => by simp [flat] at h
  | .map none, _ => .mapNil
  | .map (some r), h => by simp [flat] at h
  | .chan r, h => by simp [flat] at h
  | .func fn fi ca, h => by
    cases fn <;> simp [flat] at h <;> exact .func _ (by intro l; simp) (flatA_rv φ fi h.1) (flatA_rv φ ca h.2)
  | .nilFunc, _ => .nilFunc
  | .iface t v, h => .iface t (flat_rv φ v (by simpa [flat] using h))
  | .nilIface, _ => .nilIface
  | .agg cs, h => .agg (flatA_rv φ cs (by simpa [flat] using h))
  | .tuple cs, h => .tuple (flatA_rv φ cs (by simpa [flat] using h))
theorem flatA_rv (φ : Ph) : ∀ cs : Array Value, flatA cs = true → RL φ cs.toList cs.toList
  | ⟨l⟩, h => flatL_rv φ l (by simpa [flatA] using h)
theorem flatL_rv (φ : Ph) : ∀ l : List Value, flatL l = true → RL φ l l
  | [], _ => .nil
  | v :: l, h => by
    simp [flatL] at h; exact .cons (flat_rv φ v h.1) (flatL_rv φ l h.2)
end

theorem rv_undef (φ : Ph) : RV φ undef undef := .tuple .nil

/-! ## cells of a value -/
theorem RV.cells {v v' : Value} (h : RV φ v v') : RL φ v.cells.toList v'.cells.toList := by
  cases h with
  | agg h => simpa [Value.cells] using h
  | _ => all_goals (refine RL.cons ?_ .nil; first | constructor <;> assumption | (constructor))

/-! ## heaps -/
def RB (φ : Ph) (w : World) (b : Nat) (d : Nat × Nat) : Ob → Prop
  | .cells cs => ∃ c elem fr, w.heap[b]? = some (.cells c elem fr) ∧ (fr.1 = fr.2 ∨ c.size ≤ fr.1) ∧
      c.size = d.2 ∧ RL φ cs ((c.toList.drop d.1).take cs.length)
  | .map es clock => d = (0, 0) ∧ ∃ ces : Array MapEntry, w.heap[b]? = some (.map ces clock) ∧
      RL φ (es.map (·.key)) (ces.toList.map (·.key)) ∧ RL φ (es.map (·.val)) (ces.toList.map (·.val)) ∧ es.map (·.born) = ces.toList.map (·.born)
  | .loop ps t asg body st pend => d = (0, 0) ∧ ∃ r : Loop, w.heap[b]? = some (.loop r) ∧ RL φ t r.tmps.toList ∧ r.params = ps ∧ r.assign = asg ∧ r.body = body ∧ r.state = st ∧ r.pending = pend

theorem frz {fr : Nat × Nat} {sz : Nat} (h : fr.1 = fr.2 ∨ sz ≤ fr.1) : ∀ i, i < sz → ¬(fr.1 ≤ i ∧ i < fr.2) := by intro i hi; omega

theorem RB.mono {w : World} {b : Nat} {d : Nat × Nat} {B : Ob} (hle : PhLe φ ψ) (h : RB φ w b d B) : RB ψ w b d B := by
  cases B with
  | cells cs => obtain ⟨c, e, fr, h1, h2, ht, h3⟩ := h; exact ⟨c, e, fr, h1, h2, ht, h3.mono hle⟩
  | map es k => obtain ⟨h0, ces, h1, h2, h3, h4⟩ := h; exact ⟨h0, ces, h1, h2.mono hle, h3.mono hle, h4⟩
  | loop ps t asg body st pend => obtain ⟨h0, r, h1, h2, h3⟩ := h; exact ⟨h0, r, h1, h2.mono hle, h3⟩

theorem RB.congr {w w' : World} {b : Nat} {d : Nat × Nat} {B : Ob} (hb : w'.heap[b]? = w.heap[b]?) (h : RB φ w b d B) : RB φ w' b d B := by
  cases B with
  | cells cs => obtain ⟨c, e, fr, h1, h2, ht, h3⟩ := h; exact ⟨c, e, fr, hb ▸ h1, h2, ht, h3⟩
  | map es k => obtain ⟨h0, ces, h1, h2, h3, h4⟩ := h; exact ⟨h0, ces, hb ▸ h1, h2, h3, h4⟩
  | loop ps t asg body st pend => obtain ⟨h0, r, h1, h2, h3⟩ := h; exact ⟨h0, r, hb ▸ h1, h2, h3⟩

structure RH (φ : Ph) (σ : St) (w : World) : Prop where
  blk : ∀ n B b d, σ.hp.get n = some B → φ n = some (b, d) → RB φ w b d B
  inj : ∀ n n' B B' b d d', σ.hp.get n = some B → σ.hp.get n' = some B' → φ n = some (b, d) → φ n' = some (b, d') → n = n'
  fresh : ∀ n, σ.next ≤ n → σ.hp.get n = none
  lt : ∀ n b d, φ n = some (b, d) → b < w.heap.size

def NoName (φ : Ph) (σ σ' : St) : Prop := ∀ n, σ.next ≤ n → n < σ'.next → φ n = none

structure Post (φ : Ph) (σ : St) (w : World) (φ' : Ph) (σ' : St) (w' : World) : Prop where
  le : PhLe φ φ'
  dom : ∀ n, (n < σ.next ∨ σ'.next ≤ n) → φ' n = φ n
  next : σ.next ≤ σ'.next
  rh : RH φ' σ' w'
  conc : ∀ b, b < w.heap.size → (∀ n d, φ n = some (b, d) → σ.hp.get n = none) → w'.heap[b]? = w.heap[b]?
  abs : ∀ n, n < σ.next → φ n = none → σ'.hp.get n = σ.hp.get n
  dead : ∀ n, n < σ.next → σ.hp.get n = none → σ'.hp.get n = none
  newb : ∀ n b d, φ n = none → φ' n = some (b, d) → w.heap.size ≤ b ∨ ∃ n₀ d₀, φ n₀ = some (b, d₀) ∧ σ.hp.get n₀ ≠ none
  size : w.heap.size ≤ w'.heap.size
  os : w'.os = w.os
  output : w'.output = w.output
  tape : w'.tape = w.tape

theorem Post.refl {σ : St} {w : World} (h : RH φ σ w) : Post φ σ w φ σ w where
  le := .refl _
  dom _ _ := rfl
  next := Nat.le_refl _
  rh := h
  conc _ _ _ := rfl
  abs _ _ _ := rfl
  dead _ _ h := h
  newb n b d h1 h2 := by rw [h1] at h2; cases h2
  size := Nat.le_refl _
  os := rfl
  output := rfl
  tape := rfl

theorem NoName.left {σ σ' σ'' : St} (h : NoName φ σ σ'') (hn : σ'.next ≤ σ''.next) : NoName φ σ σ' :=
  fun n h1 h2 => h n h1 (Nat.lt_of_lt_of_le h2 hn)

theorem NoName.right {σ σ' σ'' : St} {w w' : World} {φ' : Ph} (h : NoName φ σ σ'') (p : Post φ σ w φ' σ' w') : NoName φ' σ' σ'' :=
  fun n h1 h2 => by rw [p.dom n (.inr h1)]; exact h n (Nat.le_trans p.next h1) h2

theorem Post.trans {φ φ' φ'' : Ph} {σ σ' σ'' : St} {w w' w'' : World} (p : Post φ σ w φ' σ' w') (q : Post φ' σ' w' φ'' σ'' w'')
    (hn : NoName φ σ σ'') : Post φ σ w φ'' σ'' w'' where
  le := p.le.trans q.le
  dom n h := by
    rcases h with h | h
    · rw [q.dom n (.inl (Nat.lt_of_lt_of_le h p.next)), p.dom n (.inl h)]
    · rw [q.dom n (.inr h), p.dom n (.inr (Nat.le_trans q.next h))]
  next := Nat.le_trans p.next q.next
  rh := q.rh
  conc b hb hd := by
    rw [q.conc b (Nat.lt_of_lt_of_le hb p.size) ?_, p.conc b hb hd]
    intro n d h
    cases h0 : φ n with
    | some x =>
      obtain ⟨b0, d0⟩ := x
      have := p.le _ _ h0
      rw [h] at this; cases this
      have hg := hd n d h0
      by_cases hlt : n < σ.next
      · exact p.dead n hlt hg
      · by_cases hlt' : n < σ'.next
        · have := hn n (by omega) (Nat.lt_of_lt_of_le hlt' q.next); rw [this] at h0; cases h0
        · exact p.rh.fresh n (by omega)
    | none =>
      rcases p.newb n b d h0 h with h | ⟨n0, d0, h1, h2⟩
      · omega
      · exact absurd (hd n0 d0 h1) h2
  abs n h h0 := by rw [q.abs n (Nat.lt_of_lt_of_le h p.next) (by rw [p.dom n (.inl h)]; exact h0), p.abs n h h0]
  dead n h h0 := q.dead n (Nat.lt_of_lt_of_le h p.next) (p.dead n h h0)
  newb n b d h0 h := by
    cases h1 : φ' n with
    | some x =>
      obtain ⟨b0, d0⟩ := x
      have := q.le _ _ h1
      rw [h] at this; cases this
      exact p.newb n b d h0 h1
    | none =>
      rcases q.newb n b d h1 h with h | ⟨n0, d0, h2, h3⟩
      · exact .inl (Nat.le_trans p.size h)
      · cases h4 : φ n0 with
        | some x =>
          obtain ⟨b4, d4⟩ := x
          have := p.le _ _ h4
          rw [h2] at this; cases this
          refine .inr ⟨n0, d0, h4, fun h5 => h3 ?_⟩
          by_cases hlt : n0 < σ.next
          · exact p.dead n0 hlt h5
          · by_cases hlt' : n0 < σ'.next
            · have := hn n0 (by omega) (Nat.lt_of_lt_of_le hlt' q.next); rw [this] at h4; cases h4
            · exact p.rh.fresh n0 (by omega)
        | none => exact p.newb n0 b d0 h4 h2
  size := Nat.le_trans p.size q.size
  os := by rw [q.os, p.os]
  output := by rw [q.output, p.output]
  tape := by rw [q.tape, p.tape]

end Go.Det
