/- Det, part T: the checks of drawn regions, the evaluator of code, calls. -/
import Derived.Test.YtddblfiinmbifaaGreatDetS
namespace Go.Det

variable {φ ψ : Ph} {P : Program} {w w' w₀ : World} {σ σ' : St} {tb : Tb} {call : CallF} {ops : List Oper} {t : Tm}

/-! ## equality of values -/
mutual
def veq : Value → Value → Bool
  | .bool a, .bool b => a == b
  | .int k a, .int j b => decide (k = j) && decide (a = b)
  | .string a, .string b => decide (a.data.toList = b.data.toList)
  | .pointer a, .pointer b => decide (a = b)
  | .slice a n c, .slice b m d => decide (a = b) && decide (n = m) && decide (c = d)
  | .map a, .map b => decide (a = b)
  | .nilFunc, .nilFunc => true
  | .nilIface, .nilIface => true
  | .iface u v, .iface u' v' => decide (u = u') && veq v v'
  | .func f a c, .func f' a' c' => decide (f = f') && veqA a a' && veqA c c'
  | .agg a, .agg b => veqA a b
  | .tuple a, .tuple b => veqA a b
  | _, _ => false
def veqA : Array Value → Array Value → Bool
  | ⟨a⟩, ⟨b⟩ => veqL a b
def veqL : List Value → List Value → Bool
  | [], [] => true
  | a :: l, b :: m => veq a b && veqL l m
  | _, _ => false
end

mutual
theorem veq_eq : ∀ (a b : Value), veq a b = true → a = b := by
  intro a b h
  cases a <;> cases b <;> simp only [veq, Bool.and_eq_true, decide_eq_true_eq, beq_iff_eq] at h <;> first
    | (cases h; done)
    | (subst h; rfl)
    | (obtain ⟨rfl, rfl⟩ := h; rfl)
    | (obtain ⟨⟨rfl, rfl⟩, rfl⟩ := h; rfl)
    | rfl
    | skip
  · rename_i s t
    obtain ⟨⟨l⟩⟩ := s
    obtain ⟨⟨m⟩⟩ := t
    simp only at h; subst h; rfl
  · obtain ⟨⟨rfl, h1⟩, h2⟩ := h; rw [veqA_eq _ _ h1, veqA_eq _ _ h2]
  · obtain ⟨rfl, h1⟩ := h; rw [veq_eq _ _ h1]
  · rw [veqA_eq _ _ h]
  · rw [veqA_eq _ _ h]
theorem veqA_eq : ∀ (a b : Array Value), veqA a b = true → a = b := by
  intro a b h
  obtain ⟨l⟩ := a
  obtain ⟨m⟩ := b
  rw [veqL_eq l m (by simpa only [veqA] using h)]
theorem veqL_eq : ∀ (a b : List Value), veqL a b = true → a = b := by
  intro a b h
  cases a <;> cases b <;> simp only [veqL, Bool.and_eq_true] at h <;> first
    | rfl
    | (cases h; done)
    | (rw [veq_eq _ _ h.1, veqL_eq _ _ h.2])
end

/-! ## the static checks -/
def maskOf (acc : List Nat) (es : List Edge) : Nat :=
  es.foldl (fun s e => if Region.binds .any e then s ||| 2 ^ e.on ||| acc.getD e.on 0 else s) 0

def masks : List Oper → List Nat → List Nat
  | [], acc => acc
  | o :: rest, acc => masks rest (acc ++ [maskOf acc o.after.toList])

theorem maskOf_bit (acc : List Nat) (i : Nat) : ∀ (es : List Edge) (s : Nat),
    (es.foldl (fun s e => if Region.binds .any e then s ||| 2 ^ e.on ||| acc.getD e.on 0 else s) s).testBit i = true →
    s.testBit i = true ∨ ∃ e ∈ es, Region.binds .any e = true ∧ (i = e.on ∨ (acc.getD e.on 0).testBit i = true) := by
  intro es
  induction es with
  | nil => intro s h; exact .inl h
  | cons e es ih =>
    intro s h
    simp only [List.foldl_cons] at h
    rcases ih _ h with h | ⟨e', h1, h2⟩
    · split at h
      · rename_i hb
        simp only [Nat.testBit_or, Bool.or_eq_true, Nat.testBit_two_pow, decide_eq_true_eq] at h
        rcases h with (h | h) | h
        · exact .inl h
        · exact .inr ⟨e, by simp, hb, .inl h.symm⟩
        · exact .inr ⟨e, by simp, hb, .inr h⟩
      · exact .inl h
    · exact .inr ⟨e', by simp [h1], h2⟩

theorem masks_anc : ∀ (rest pre : List Oper) (acc : List Nat), ops = pre ++ rest → acc.length = pre.length →
    (∀ j i, (acc.getD j 0).testBit i = true → Anc ops i j) → ∀ j i, ((masks rest acc).getD j 0).testBit i = true → Anc ops i j := by
  intro rest
  induction rest with
  | nil => intro pre acc _ _ h; exact h
  | cons o rest ih =>
    intro pre acc hops hlen h
    refine ih (pre ++ [o]) _ (by simp [hops]) (by simp [hlen]) ?_
    intro j i hb
    rcases Nat.lt_trichotomy j acc.length with hj | hj | hj
    · rw [List.getD_eq_getElem?_getD, List.getElem?_append_left hj, ← List.getD_eq_getElem?_getD] at hb; exact h j i hb
    · subst hj
      rw [List.getD_eq_getElem?_getD, List.getElem?_append_right (Nat.le_refl _)] at hb
      simp only [Nat.sub_self, List.getElem?_cons_zero, Option.getD_some] at hb
      have ho : ops[acc.length]? = some o := by rw [hops, hlen]; simp
      rcases maskOf_bit acc i _ _ hb with h0 | ⟨e, he, hbd, h1⟩
      · simp at h0
      · rcases h1 with rfl | h1
        · exact .edge ho (by simpa using he) hbd
        · exact .step ho (by simpa using he) hbd (h _ _ h1)
    · rw [List.getD_eq_getElem?_getD, List.getElem?_append_right (by omega)] at hb
      have : j - acc.length ≠ 0 := by omega
      cases hx : j - acc.length with
      | zero => omega
      | succ x => rw [hx] at hb; simp at hb

def ancB (ms : List Nat) (i j : Nat) : Bool := (ms.getD j 0).testBit i

def idx (ops : List Oper) : List (Nat × Oper) := ops.zipIdx.map fun x => (x.2, x.1)

theorem mem_idx {i : Nat} {o : Oper} : (i, o) ∈ idx ops ↔ ops[i]? = some o := by
  unfold idx
  simp only [List.mem_map, Prod.mk.injEq]
  constructor
  · rintro ⟨⟨o', i'⟩, h1, h2, h3⟩
    simp only at h2 h3; subst h2 h3
    have := List.mem_zipIdx_iff_getElem?.1 h1
    simpa using this
  · intro h
    exact ⟨(o, i), List.mem_zipIdx_iff_getElem?.2 (by simpa using h), rfl, rfl⟩

def actsOf (tb : Tb) (ops : List Oper) : List Nat := ((idx ops).filter fun x => isAct tb x.2).map (·.1)

theorem mem_acts {i : Nat} : i ∈ actsOf tb ops ↔ Act' tb ops i := by
  unfold actsOf Act'
  simp only [List.mem_map, List.mem_filter]
  constructor
  · rintro ⟨⟨j, o⟩, ⟨h1, h2⟩, rfl⟩; exact ⟨o, mem_idx.1 h1, h2⟩
  · rintro ⟨o, h1, h2⟩; exact ⟨(i, o), ⟨mem_idx.2 h1, h2⟩, rfl⟩

def staB (tb : Tb) (ops : List Oper) : Bool :=
  let ms := masks ops []
  let ix := idx ops
  let as := actsOf tb ops
  (ix.all fun x => x.2.after.toList.all fun e => !Region.binds .any e || decide (e.on < x.1)) &&
  (as.all fun i => as.all fun j => !decide (i < j) || ancB ms i j) &&
  (ix.all fun x => (x.2.looksAt ops.toArray).all fun d => ix.all fun y => decide (x.1 = y.1) || !decide (y.2.dst = some d) || ancB ms x.1 y.1 || ancB ms y.1 x.1) &&
  (ix.all fun x => ix.all fun y => decide (x.1 = y.1) || x.2.dst.isNone || !decide (x.2.dst = y.2.dst))

theorem sta_of (h : staB tb ops = true) : Sta tb ops := by
  simp only [staB, Bool.and_eq_true, List.all_eq_true, Bool.or_eq_true, Bool.not_eq_true', decide_eq_true_eq, decide_eq_false_iff_not] at h
  obtain ⟨⟨⟨h1, h2⟩, h3⟩, h4⟩ := h
  have hanc : ∀ i j, ancB (masks ops []) i j = true → Anc ops i j := fun i j hb => masks_anc ops [] [] rfl rfl (by intro j i hb; simp at hb) j i hb
  refine ⟨?_, ?_, ?_, ?_⟩
  · intro i o e ho he hb
    rcases h1 (i, o) (mem_idx.2 ho) e (by simpa using he) with h | h
    · rw [hb] at h; cases h
    · exact h
  · intro i j hij hi hj
    rcases h2 i (mem_acts.2 hi) j (mem_acts.2 hj) with h | h
    · exact absurd hij h
    · exact hanc _ _ h
  · intro i j oi oj d hi hj hij hd hl
    rcases h3 (i, oi) (mem_idx.2 hi) d hl (j, oj) (mem_idx.2 hj) with ((h | h) | h) | h
    · exact absurd h hij
    · exact absurd hd h
    · exact .inl (hanc _ _ h)
    · exact .inr (hanc _ _ h)
  · intro i j oi oj d hi hj hdi hdj
    rcases h4 (i, oi) (mem_idx.2 hi) (j, oj) (mem_idx.2 hj) with (h | h) | h
    · exact h
    · simp only at h; rw [hdi] at h; simp at h
    · simp only at h; rw [hdi, hdj] at h; exact absurd rfl h

/-- at which boundaries a read is asked again -/
def qsOf (ops : List Oper) (ms as : List Nat) (i : Nat) : List Nat :=
  (as ++ [ops.length]).filter fun q => (as.all fun r => !ancB ms r i || decide (r < q)) && (as.all fun r => !decide (r < q) || !ancB ms i r)

def infoOf (tb : Tb) (ops : List Oper) : List (Nat × List Nat) :=
  let ms := masks ops []
  let as := actsOf tb ops
  ((idx ops).filter fun x => kindOf tb x.2.op == .read).map fun x => (x.1, qsOf ops ms as x.1)

theorem info_mem {i : Nat} {o : Oper} (ho : ops[i]? = some o) (hk : kindOf tb o.op = .read) : (i, qsOf ops (masks ops []) (actsOf tb ops) i) ∈ infoOf tb ops := by
  unfold infoOf
  simp only [List.mem_map, List.mem_filter]
  exact ⟨(i, o), ⟨mem_idx.2 ho, by simp [hk]⟩, rfl⟩

theorem qs_mem {i q : Nat} (hq : Bd tb ops q) (h1 : ∀ r, Act' tb ops r → Anc ops r i → r < q) (h2 : ∀ r, Act' tb ops r → r < q → ¬ Anc ops i r) :
    q ∈ qsOf ops (masks ops []) (actsOf tb ops) i := by
  have hanc : ∀ i j, ancB (masks ops []) i j = true → Anc ops i j := fun i j hb => masks_anc ops [] [] rfl rfl (by intro j i hb; simp at hb) j i hb
  unfold qsOf
  simp only [List.mem_filter, List.mem_append, List.mem_singleton, Bool.and_eq_true, List.all_eq_true, Bool.or_eq_true, Bool.not_eq_true', decide_eq_true_eq, decide_eq_false_iff_not]
  refine ⟨?_, ?_, ?_⟩
  · rcases hq with h | h
    · exact .inr h
    · exact .inl (mem_acts.2 h)
  · intro r hr
    by_cases hb : ancB (masks ops []) r i = true
    · exact .inr (h1 r (mem_acts.1 hr) (hanc _ _ hb))
    · exact .inl (by simpa using hb)
  · intro r hr
    by_cases hb : ancB (masks ops []) i r = true
    · exact .inl fun hlt => h2 r (mem_acts.1 hr) hlt (hanc _ _ hb)
    · exact .inr (by simpa using hb)

/-! ## the trace of a drawn region -/
abbrev Ent := Tm × St × Value

def runT (P : Program) (tb : Tb) (call : CallF) (all : List Oper) : List Oper → Tm → St → Option (List Ent)
  | [], t, σ => some [(t, σ, undef)]
  | o :: rest, t, σ =>
    match wantA all t o with
    | true =>
      match execO P tb call (opd t) o.op σ with
      | some (v, σ') => settle (opd t) o.op σ.next σ' fun σ' => fVal v fun v => putK t o.dst v fun t' =>
        match runT P tb call all rest t' σ' with
        | some l => some ((t, σ, v) :: l)
        | none => none
      | none => none
    | false => putK t o.dst undef fun t' =>
      match runT P tb call all rest t' σ with
      | some l => some ((t, σ, undef) :: l)
      | none => none

def dynB (P : Program) (tb : Tb) (call : CallF) (ops : List Oper) (tr : List Ent) (info : List (Nat × List Nat)) : Bool :=
  info.all fun x => match ops[x.1]?, tr[x.1]? with
    | some o, some (ti, _, vi) => !wantA ops ti o || x.2.all fun q => match tr[q]? with
      | some (_, σq, _) => match execO P tb call (opd ti) o.op σq with
        | some (v, _) => veq v vi
        | none => false
      | none => false
    | _, _ => false

def ent0 : Ent := ([], ⟨.nil, 0⟩, undef)

def TSpec (P : Program) (tb : Tb) (call : CallF) (all rest : List Oper) (t : Tm) (σ : St) (l : List Ent) : Prop :=
  l.length = rest.length + 1 ∧ (∃ v, l[0]? = some (t, σ, v)) ∧
    ∀ (i : Nat) (o : Oper), rest[i]? = some o → ∃ ti σi vi t' σ' v', l[i]? = some (ti, σi, vi) ∧ l[i + 1]? = some (t', σ', v') ∧ t' = putT ti o.dst vi ∧
      ((wantA all ti o = true ∧ execO P tb call (opd ti) o.op σi = some (vi, σ')) ∨ (wantA all ti o = false ∧ vi = undef ∧ σ' = σi))

theorem tspec_cons {all rest : List Oper} {o : Oper} {v : Value} {σ1 : St} {l1 : List Ent} (h1 : TSpec P tb call all rest (putT t o.dst v) σ1 l1)
    (h3 : (wantA all t o = true ∧ execO P tb call (opd t) o.op σ = some (v, σ1)) ∨ (wantA all t o = false ∧ v = undef ∧ σ1 = σ)) :
    TSpec P tb call all (o :: rest) t σ ((t, σ, v) :: l1) := by
  obtain ⟨g1, ⟨v1, g2⟩, g3⟩ := h1
  refine ⟨by simp [g1], ⟨v, rfl⟩, ?_⟩
  intro i o' ho'
  cases i with
  | zero =>
    simp at ho'; subst ho'
    exact ⟨t, σ, v, _, σ1, v1, rfl, by simpa using g2, rfl, h3⟩
  | succ i =>
    obtain ⟨ti, σi, vi, t', σ', v', k1, k2, k3, k4⟩ := g3 i o' (by simpa using ho')
    exact ⟨ti, σi, vi, t', σ', v', by simpa using k1, by simpa using k2, k3, k4⟩

theorem runT_spec {all : List Oper} : ∀ (rest : List Oper) (t : Tm) (σ : St) (l : List Ent), runT P tb call all rest t σ = some l → TSpec P tb call all rest t σ l := by
  intro rest
  induction rest with
  | nil =>
    intro t σ l h
    simp only [runT, Option.some.injEq] at h; subst h
    exact ⟨rfl, ⟨_, rfl⟩, by intro i o h; simp at h⟩
  | cons o rest ih =>
    intro t σ l h
    simp only [runT, settle_eq, fVal_eq, putK_eq] at h
    split at h
    · rename_i hw
      split at h
      · rename_i v σ1 hx
        split at h
        · rename_i l1 h1
          cases h
          exact tspec_cons (ih _ _ _ h1) (.inl ⟨hw, hx⟩)
        · cases h
      · cases h
    · rename_i hw
      split at h
      · rename_i l1 h1
        cases h
        exact tspec_cons (ih _ _ _ h1) (.inr ⟨hw, rfl, rfl⟩)
      · cases h

theorem execO_read_st {ρ : Operand → Option Value} {op : Op} {v : Value} (hk : kindOf tb op = .read) (h : execO P tb call ρ op σ = some (v, σ')) : σ' = σ := by
  unfold execO at h
  rw [hk] at h; simp only at h
  split at h
  · simp only [Option.some.injEq, Prod.mk.injEq] at h; exact h.2.symm
  · split at h
    · simp only [Option.some.injEq, Prod.mk.injEq] at h; exact h.2.symm
    · cases h

theorem tra_of {l : List Ent} (h : runT P tb call ops ops t σ = some l) (hd : dynB P tb call ops l (infoOf tb ops) = true) :
    Tra P tb call ops t σ (fun i => (l.getD i ent0).1) (fun i => (l.getD i ent0).2.1) (fun i => (l.getD i ent0).2.2) := by
  obtain ⟨g1, ⟨v0, g2⟩, g3⟩ := runT_spec _ _ _ _ h
  refine ⟨by simp [List.getD, g2], by simp [List.getD, g2], ?_, ?_⟩
  · intro i o ho
    obtain ⟨ti, σi, vi, t', σ', v', k1, k2, k3, k4⟩ := g3 i o ho
    simp only [List.getD, k1, k2, Option.getD_some]
    exact ⟨k3, k4⟩
  · intro i o ho hk hw q hq h1 h2
    obtain ⟨ti, σi, vi, t', σ', v', k1, k2, k3, k4⟩ := g3 i o ho
    simp only [List.getD, k1, Option.getD_some] at hw ⊢
    have hmem := info_mem ho hk
    unfold dynB at hd
    rw [List.all_eq_true] at hd
    have hx := hd _ hmem
    simp only [ho, k1, hw, Bool.not_true, Bool.false_or, List.all_eq_true] at hx
    have hy := hx q (qs_mem hq h1 h2)
    split at hy
    · rename_i tq σq vq hlq
      rw [hlq]
      simp only [Option.getD_some]
      split at hy
      · rename_i v σx hxx
        have hs := execO_read_st hk hxx
        have hv := veq_eq _ _ hy
        subst hs hv
        exact hxx
      · cases hy
    · cases hy

end Go.Det
