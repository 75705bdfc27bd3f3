/- Det, part O: a region that draws its order. -/
import Derived.Test.YtddblfiinmbifaaGreatDetN
import Derived.Orders
namespace Go.Det

variable {D : List Deferred}
variable {φ ψ : Ph} {P : Program} {w w' w₀ : World} {σ σ' : St} {tb : Tb} {call : CallF} {ops : List Oper} {t : Tm} {T : Nat → Tm} {S : Nat → St} {V : Nat → Value}

def isAct (tb : Tb) (o : Oper) : Bool := kindOf tb o.op == .act || kindOf tb o.op == .call

inductive Anc (ops : List Oper) : Nat → Nat → Prop where
  | edge {j : Nat} {o : Oper} {e : Edge} (h : ops[j]? = some o) (he : e ∈ o.after) (hb : Region.binds .any e = true) : Anc ops e.on j
  | step {i j : Nat} {o : Oper} {e : Edge} (h : ops[j]? = some o) (he : e ∈ o.after) (hb : Region.binds .any e = true) (ha : Anc ops i e.on) : Anc ops i j

def Act' (tb : Tb) (ops : List Oper) (i : Nat) : Prop := ∃ o, ops[i]? = some o ∧ isAct tb o = true
def Bd (tb : Tb) (ops : List Oper) (q : Nat) : Prop := q = ops.length ∨ Act' tb ops q

structure Sta (tb : Tb) (ops : List Oper) : Prop where
  back : ∀ (i : Nat) (o : Oper) (e : Edge), ops[i]? = some o → e ∈ o.after → Region.binds .any e = true → e.on < i
  acts : ∀ i j, i < j → Act' tb ops i → Act' tb ops j → Anc ops i j
  looks : ∀ (i j : Nat) (oi oj : Oper) (d : Nat), ops[i]? = some oi → ops[j]? = some oj → i ≠ j → oj.dst = some d → d ∈ oi.looksAt ops.toArray → Anc ops i j ∨ Anc ops j i
  dsts : ∀ (i j : Nat) (oi oj : Oper) (d : Nat), ops[i]? = some oi → ops[j]? = some oj → oi.dst = some d → oj.dst = some d → i = j

structure Tra (P : Program) (tb : Tb) (call : CallF) (ops : List Oper) (t : Tm) (σ : St) (T : Nat → Tm) (S : Nat → St) (V : Nat → Value) : Prop where
  t0 : T 0 = t
  s0 : S 0 = σ
  step : ∀ (i : Nat) (o : Oper), ops[i]? = some o → T (i + 1) = putT (T i) o.dst (V i) ∧
    ((wantA ops (T i) o = true ∧ execO P tb call (opd (T i)) o.op (S i) = some (V i, S (i + 1))) ∨
     (wantA ops (T i) o = false ∧ V i = undef ∧ S (i + 1) = S i))
  dyn : ∀ (i : Nat) (o : Oper), ops[i]? = some o → kindOf tb o.op = .read → wantA ops (T i) o = true → ∀ q, Bd tb ops q →
    (∀ r, Act' tb ops r → Anc ops r i → r < q) → (∀ r, Act' tb ops r → r < q → ¬ Anc ops i r) →
    execO P tb call (opd (T i)) o.op (S q) = some (V i, S q)

theorem Anc.lt (hs : Sta tb ops) {i j : Nat} (h : Anc ops i j) : i < j := by
  induction h with
  | edge h he hb => exact hs.back _ _ _ h he hb
  | step h he hb _ ih => have := hs.back _ _ _ h he hb; omega

/-! ## the trace -/
theorem Tra.next (hcall : CallOk P call) (ht : Tra P tb call ops t σ T S V) {i : Nat} (hi : i < ops.length) : (S i).next ≤ (S (i + 1)).next := by
  obtain ⟨o, ho⟩ : ∃ o, ops[i]? = some o := ⟨_, List.getElem?_eq_getElem hi⟩
  rcases (ht.step i o ho).2 with ⟨-, h⟩ | ⟨-, -, h⟩
  · exact execO_next hcall h
  · rw [h]; exact Nat.le_refl _

theorem Tra.mono (hcall : CallOk P call) (ht : Tra P tb call ops t σ T S V) {i j : Nat} (hij : i ≤ j) (hj : j ≤ ops.length) : (S i).next ≤ (S j).next := by
  induction j with
  | zero => have : i = 0 := by omega
            subst this; exact Nat.le_refl _
  | succ j ih =>
    by_cases h : i = j + 1
    · subst h; exact Nat.le_refl _
    · exact Nat.le_trans (ih (by omega) (by omega)) (ht.next hcall (by omega))

theorem Tra.quiet (ht : Tra P tb call ops t σ T S V) {i : Nat} {o : Oper} (ho : ops[i]? = some o) (hna : isAct tb o = false) : S (i + 1) = S i ∨ ∃ C, S (i + 1) = (S i).new C := by
  rcases (ht.step i o ho).2 with ⟨-, h⟩ | ⟨-, -, h⟩
  · unfold execO at h
    unfold isAct at hna
    cases hk : kindOf tb o.op <;> rw [hk] at h hna <;> simp only at h
    · split at h
      · simp only [Option.some.injEq, Prod.mk.injEq] at h; exact .inl h.2.symm
      · cases h
    · split at h
      · simp only [Option.some.injEq, Prod.mk.injEq] at h; exact .inl h.2.symm
      · split at h
        · simp only [Option.some.injEq, Prod.mk.injEq] at h; exact .inl h.2.symm
        · cases h
    · exact .inr (alloc_new h)
    · exact absurd hna (by decide)
    · exact absurd hna (by decide)
  · exact .inl h

theorem putT_length (t : Tm) (dst : Option Tmp) (v : Value) : (putT t dst v).length = t.length := by cases dst <;> simp [putT]
theorem putT_get_ne {t : Tm} {dst : Option Tmp} {v : Value} {u : Nat} (h : dst ≠ some u) : (putT t dst v)[u]? = t[u]? := by
  cases dst with
  | none => rfl
  | some d => simp only [putT]; rw [List.getElem?_set_ne]; intro e; exact h (by rw [e])
theorem putT_get_eq {t : Tm} {v : Value} {u : Nat} (h : u < t.length) : (putT t (some u) v)[u]? = some v := by
  simp only [putT]; rw [List.getElem?_set_self h]

theorem Tra.len (ht : Tra P tb call ops t σ T S V) : ∀ i, i ≤ ops.length → (T i).length = t.length := by
  intro i
  induction i with
  | zero => intro _; rw [ht.t0]
  | succ i ih =>
    intro hi
    obtain ⟨o, ho⟩ : ∃ o, ops[i]? = some o := ⟨_, List.getElem?_eq_getElem (by omega)⟩
    rw [(ht.step i o ho).1, putT_length, ih (by omega)]

/-- a slot that none of the first i operations writes -/
theorem Tra.untouched (ht : Tra P tb call ops t σ T S V) {u : Nat} : ∀ i, i ≤ ops.length → (∀ (j : Nat) (o : Oper), j < i → ops[j]? = some o → o.dst ≠ some u) → (T i)[u]? = t[u]? := by
  intro i
  induction i with
  | zero => intro _ _; rw [ht.t0]
  | succ i ih =>
    intro hi hn
    obtain ⟨o, ho⟩ : ∃ o, ops[i]? = some o := ⟨_, List.getElem?_eq_getElem (by omega)⟩
    rw [(ht.step i o ho).1, putT_get_ne (hn i o (by omega) ho)]
    exact ih (by omega) fun j o hj => hn j o (by omega)

/-- a slot that operation j wrote -/
theorem Tra.written (hs : Sta tb ops) (ht : Tra P tb call ops t σ T S V) {u j : Nat} {oj : Oper} (hj : ops[j]? = some oj) (hd : oj.dst = some u) (hu : u < t.length) :
    ∀ i, i ≤ ops.length → j < i → (T i)[u]? = some (V j) := by
  intro i
  induction i with
  | zero => intro _ h; omega
  | succ i ih =>
    intro hi hlt
    obtain ⟨o, ho⟩ : ∃ o, ops[i]? = some o := ⟨_, List.getElem?_eq_getElem (by omega)⟩
    rw [(ht.step i o ho).1]
    by_cases e : j = i
    · subst e
      rw [hj] at ho; cases ho
      rw [hd]
      exact putT_get_eq (by rw [ht.len _ (by omega)]; exact hu)
    · rw [putT_get_ne]
      · exact ih (by omega) (by omega)
      · intro hd'; exact e (hs.dsts _ _ _ _ _ hj ho hd hd')

/-! ## the invariant -/
abbrev In (l : Array Bool) (i : Nat) : Prop := l.getD i false = true

structure Inv (D : List Deferred) (tb : Tb) (ops : List Oper) (t : Tm) (σ : St) (S : Nat → St) (V : Nat → Value) (φ : Ph) (w₀ : World) (l : Array Bool) (k : Nat) (ψ : Ph) (a : Act) (w : World) : Prop where
  lsz : l.size = ops.length
  kle : k ≤ ops.length
  down : ∀ (i : Nat) (o : Oper) (e : Edge), ops[i]? = some o → In l i → e ∈ o.after → Region.binds .any e = true → In l e.on
  before : ∀ i, i < k → Act' tb ops i → In l i
  behind : ∀ i, k ≤ i → Act' tb ops i → ¬ In l i
  le : PhLe φ ψ
  rh : RH ψ (S k) w
  unl : ∀ i, i < ops.length → ¬ In l i → ∀ m, (S i).next ≤ m → m < (S (i + 1)).next → ψ m = none
  out : ∀ m, (m < σ.next ∨ (S ops.length).next ≤ m) → ψ m = φ m
  fut : ∀ i C, i < ops.length → In l i → k ≤ i → ¬ Act' tb ops i → S (i + 1) = (S i).new C → ∃ b d, ψ (S i).next = some (b, d) ∧ RB ψ w b d C ∧ ∀ m d', ψ m = some (b, d') → m = (S i).next
  pend : ∀ i C, i < k → ¬ In l i → ¬ Act' tb ops i → S (i + 1) = (S i).new C → (S k).hp.get (S i).next = some C
  tsz : a.tmps.size = t.length
  wr : ∀ (j : Nat) (o : Oper) (u : Nat), ops[j]? = some o → In l j → o.dst = some u → u < t.length → ∃ v', a.tmps[u]? = some v' ∧ RV ψ (V j) v'
  nw : ∀ (u : Nat) (x : Value), t[u]? = some x → (∀ (j : Nat) (o : Oper), ops[j]? = some o → In l j → o.dst ≠ some u) → ∃ v', a.tmps[u]? = some v' ∧ RV ψ x v'
  defers : a.defers = D
  conc : ∀ b, b < w₀.heap.size → (∀ n d, φ n = some (b, d) → σ.hp.get n = none) → w.heap[b]? = w₀.heap[b]?
  abs : ∀ m, m < σ.next → φ m = none → (S k).hp.get m = σ.hp.get m
  dead : ∀ m, m < σ.next → σ.hp.get m = none → (S k).hp.get m = none
  newb : ∀ m b d, φ m = none → ψ m = some (b, d) → w₀.heap.size ≤ b ∨ ∃ n₀ d₀, φ n₀ = some (b, d₀) ∧ σ.hp.get n₀ ≠ none
  size : w₀.heap.size ≤ w.heap.size
  os : w.os = w₀.os
  output : w.output = w₀.output
  tape : w.tape = w₀.tape

variable {l : Array Bool} {k : Nat} {a : Act}

theorem Inv.anc (h : Inv D tb ops t σ S V φ w₀ l k ψ a w) {i j : Nat} (ha : Anc ops i j) (hj : In l j) : In l i := by
  induction ha with
  | edge h1 he hb => exact h.down _ _ _ h1 hj he hb
  | step h1 he hb _ ih => exact ih (h.down _ _ _ h1 hj he hb)

/-- one row more on the abstract side -/
theorem RH.add (h : RH ψ σ w) {C : Ob} (hC : ∀ b d, ψ σ.next = some (b, d) → RB ψ w b d C ∧ ∀ m d', ψ m = some (b, d') → m = σ.next) : RH ψ (σ.new C) w where
  blk n B b d hB hψ := by
    rw [new_get] at hB
    split at hB
    · rename_i e; subst e; cases hB; exact (hC b d hψ).1
    · exact h.blk n B b d hB hψ
  inj n n' B B' b d d' h1 h2 h3 h4 := by
    rw [new_get] at h1 h2
    by_cases e : n = σ.next
    · subst e; exact ((hC b d h3).2 n' d' h4).symm
    · by_cases e' : n' = σ.next
      · subst e'; exact (hC b d' h4).2 n d h3
      · rw [if_neg e] at h1; rw [if_neg e'] at h2; exact h.inj _ _ _ _ _ _ _ h1 h2 h3 h4
  fresh n hn := by
    simp only [St.new] at hn
    rw [new_get, if_neg (by omega)]; exact h.fresh n (by omega)
  lt := h.lt

theorem Inv.next_le (hcall : CallOk P call) (ht : Tra P tb call ops t σ T S V) (i : Nat) (hi : i ≤ ops.length) : σ.next ≤ (S i).next := by
  have := ht.mono hcall (Nat.zero_le i) hi
  rwa [ht.s0] at this

/-- over an operation that does not act -/
theorem Inv.advance (hcall : CallOk P call) (ht : Tra P tb call ops t σ T S V) (h : Inv D tb ops t σ S V φ w₀ l k ψ a w) {o : Oper} (ho : ops[k]? = some o) (hna : isAct tb o = false) :
    Inv D tb ops t σ S V φ w₀ l (k + 1) ψ a w := by
  have hk : k < ops.length := (List.getElem?_eq_some_iff.1 ho).1
  have hnA : ¬ Act' tb ops k := by
    rintro ⟨o', h1, h2⟩
    rw [ho] at h1; cases h1; rw [hna] at h2; cases h2
  have hσ := Inv.next_le hcall ht k (by omega)
  have base : (S (k + 1)).next ≥ (S k).next := ht.next hcall hk
  have mid : RH ψ (S (k + 1)) w ∧ (∀ m, m < σ.next → (S (k + 1)).hp.get m = (S k).hp.get m) ∧ (∀ m, m < (S k).next → (S (k + 1)).hp.get m = (S k).hp.get m) := by
    rcases ht.quiet ho hna with e | ⟨C, e⟩
    · rw [e]; exact ⟨h.rh, fun _ _ => rfl, fun _ _ => rfl⟩
    · rw [e]
      refine ⟨h.rh.add ?_, fun m hm => by rw [new_get, if_neg (by omega)], fun m hm => by rw [new_get, if_neg (by omega)]⟩
      intro b d hψ
      by_cases hin : In l k
      · obtain ⟨b', d', f1, f2, f3⟩ := h.fut k C hk hin (Nat.le_refl _) hnA e
        rw [hψ] at f1; cases f1
        exact ⟨f2, f3⟩
      · have := h.unl k hk hin (S k).next (Nat.le_refl _) (by rw [e]; exact Nat.lt_succ_self _)
        rw [hψ] at this; cases this
  exact { h with
    kle := hk
    before := fun i hi hA => by
      by_cases e : i = k
      · subst e; exact absurd hA hnA
      · exact h.before i (by omega) hA
    behind := fun i hi hA => h.behind i (by omega) hA
    rh := mid.1
    fut := fun i C hi hin hki => h.fut i C hi hin (by omega)
    pend := fun i C hi hin hnA' e => by
      by_cases e' : i = k
      · subst e'; rw [e, new_get, if_pos rfl]
      · have hik : i < k := by omega
        rw [mid.2.2 _ (by
          have h1 := ht.mono hcall (i := i + 1) (j := k) (by omega) (by omega)
          rw [e] at h1
          exact h1), h.pend i C hik hin hnA' e]
    abs := fun m hm hφ => by rw [mid.2.1 m hm]; exact h.abs m hm hφ
    dead := fun m hm hg => by rw [mid.2.1 m hm]; exact h.dead m hm hg }

/-- to the next operation that acts, or to the end -/
theorem Inv.boundary (hcall : CallOk P call) (ht : Tra P tb call ops t σ T S V) : ∀ (x k : Nat), ops.length - k = x → Inv D tb ops t σ S V φ w₀ l k ψ a w →
    ∃ k', Bd tb ops k' ∧ Inv D tb ops t σ S V φ w₀ l k' ψ a w := by
  intro x
  induction x with
  | zero =>
    intro k hx h
    have := h.kle
    exact ⟨k, .inl (by omega), h⟩
  | succ x ih =>
    intro k hx h
    obtain ⟨o, ho⟩ : ∃ o, ops[k]? = some o := ⟨_, List.getElem?_eq_getElem (by omega)⟩
    cases hna : isAct tb o with
    | true => exact ⟨k, .inr ⟨o, ho, hna⟩, h⟩
    | false => exact ih (k + 1) (by omega) (h.advance hcall ht ho hna)

end Go.Det
