/- Det, part Z: regions and code in continuation form. -/
import Derived.Test.YtddblfiinmbifaaGreatDetY2
namespace Go.Det

variable {P : Program} {tb : Tb} {call : CallF} {callK : CallK} {d n : Nat} {q : Q} {t : Tm} {σ : St}

inductive Gd where
  | yes
  | slot (d : Nat) (want : Bool)
  | no

def gdOf (ops : List Oper) (o : Oper) : Gd := match o.guard with
  | none => .yes
  | some (j, want) => match (ops[j]?).bind (·.dst) with
    | some d => .slot d want
    | none => .no

noncomputable def wantV (w : Bool) (y z : Option α) (v : Value) : Option α := match v with
  | .bool b => Bool.rec (motive := fun _ => Option α) (Bool.rec (motive := fun _ => Option α) y z w) (Bool.rec (motive := fun _ => Option α) z y w) b
  | _ => z
noncomputable def wantK (d n : Nat) (q : Q) (g : Gd) (y z : Option α) : Option α :=
  Gd.rec (motive := fun _ => Option α) y (fun s w => Option.rec (motive := fun _ => Option α) none (fun p => getK p q (wantV w y z)) (pth d n s)) z g

theorem wantK_some {ops : List Oper} {o : Oper} (hR : Rep d n q t) {y z : Option α} {r : α} (h : wantK d n q (gdOf ops o) y z = some r) :
    (wantA ops t o = true ∧ y = some r) ∨ (wantA ops t o = false ∧ z = some r) := by
  unfold gdOf at h
  unfold wantA
  cases hg : o.guard with
  | none => rw [hg] at h; exact .inl ⟨rfl, h⟩
  | some jw =>
    obtain ⟨j, w⟩ := jw
    rw [hg] at h
    simp only at h ⊢
    cases hd : (ops[j]?).bind (·.dst) with
    | none => rw [hd] at h; exact .inr ⟨rfl, h⟩
    | some s =>
      rw [hd] at h
      simp only [wantK] at h ⊢
      cases hp : pth d n s with
      | none => rw [hp] at h; cases h
      | some p =>
        rw [hp] at h
        obtain ⟨v, h1, h2⟩ := getK_some p q _ r h
        rw [hR.2 _ _ _ hp h1]
        unfold wantV at h2
        split at h2
        · rename_i b
          cases b <;> cases w
          · exact .inl ⟨rfl, h2⟩
          · exact .inr ⟨rfl, h2⟩
          · exact .inr ⟨rfl, h2⟩
          · exact .inl ⟨rfl, h2⟩
        · refine .inr ⟨?_, h2⟩
          rename_i hne
          cases v <;> first | rfl | exact absurd rfl (hne _)

/-! ## a region in the order of its text -/
noncomputable def runK (P : Program) (tb : Tb) (callK : CallK) (d n : Nat) (all ops : List Oper) : Q → St → (Q → St → Option α) → Option α :=
  List.rec (motive := fun _ => Q → St → (Q → St → Option α) → Option α) (fun q σ k => k q σ)
    (fun o _ ih q σ k => wantK d n q (gdOf all o) (opF P tb callK d n o.op q σ fun v σ' => wrK d n q o.dst v fun q' => ih q' σ' k) (wrK d n q o.dst undef fun q' => ih q' σ k)) ops

theorem runK_some (hcall : CKok callK call) {all : List Oper} : ∀ (ops : List Oper) (q : Q) (t : Tm) (σ : St) (k : Q → St → Option α) (r : α), Rep d n q t → runK P tb callK d n all ops q σ k = some r →
    ∃ t' σ' q', runOps P tb call all ops t σ = some (t', σ') ∧ Rep d n q' t' ∧ k q' σ' = some r
  | [], q, t, σ, k, r, hR, h => ⟨t, σ, q, rfl, hR, h⟩
  | o :: rest, q, t, σ, k, r, hR, h => by
    rcases wantK_some hR (show wantK d n q (gdOf all o) _ _ = some r from h) with ⟨hw, h1⟩ | ⟨hw, h1⟩
    · obtain ⟨v, σ1, h2, h3⟩ := opF_some hcall hR h1
      obtain ⟨q1, h4, h5⟩ := wrK_some hR h3
      obtain ⟨t', σ', q', h6, h7, h8⟩ := runK_some hcall rest q1 _ σ1 k r h4 h5
      exact ⟨t', σ', q', by simp only [runOps, settle_eq, fVal_eq, putK_eq, hw, h2]; exact h6, h7, h8⟩
    · obtain ⟨q1, h4, h5⟩ := wrK_some hR h1
      obtain ⟨t', σ', q', h6, h7, h8⟩ := runK_some hcall rest q1 _ σ k r h4 h5
      exact ⟨t', σ', q', by simp only [runOps, putK_eq, hw]; exact h6, h7, h8⟩

/-! ## a drawn region -/
structure EQ where
  q : Q
  σ : St
  v : Value

noncomputable def traK (P : Program) (tb : Tb) (callK : CallK) (d n : Nat) (all ops : List Oper) : Q → St → (List EQ → Q → St → Option α) → Option α :=
  List.rec (motive := fun _ => Q → St → (List EQ → Q → St → Option α) → Option α) (fun q σ k => k [⟨q, σ, undef⟩] q σ)
    (fun o _ ih q σ k => wantK d n q (gdOf all o) (opF P tb callK d n o.op q σ fun v σ' => wrK d n q o.dst v fun q' => ih q' σ' fun l => k (⟨q, σ, v⟩ :: l))
      (wrK d n q o.dst undef fun q' => ih q' σ fun l => k (⟨q, σ, undef⟩ :: l))) ops

inductive RepE (d n : Nat) : List EQ → List Ent → Prop where
  | nil : RepE d n [] []
  | cons {q t σ v l m} (h : Rep d n q t) (hl : RepE d n l m) : RepE d n (⟨q, σ, v⟩ :: l) ((t, σ, v) :: m)

theorem traK_some (hcall : CKok callK call) {all : List Oper} : ∀ (ops : List Oper) (q : Q) (t : Tm) (σ : St) (k : List EQ → Q → St → Option α) (r : α), Rep d n q t → traK P tb callK d n all ops q σ k = some r →
    ∃ l m t' σ' q', runT P tb call all ops t σ = some m ∧ RepE d n l m ∧ m[ops.length]? = some (t', σ', undef) ∧ Rep d n q' t' ∧ k l q' σ' = some r
  | [], q, t, σ, k, r, hR, h => ⟨_, _, t, σ, q, rfl, .cons hR .nil, rfl, hR, h⟩
  | o :: rest, q, t, σ, k, r, hR, h => by
    rcases wantK_some hR (show wantK d n q (gdOf all o) _ _ = some r from h) with ⟨hw, h1⟩ | ⟨hw, h1⟩
    · obtain ⟨v, σ1, h2, h3⟩ := opF_some hcall hR h1
      obtain ⟨q1, h4, h5⟩ := wrK_some hR h3
      obtain ⟨l, m, t', σ', q', h6, h7, h8, h9, h10⟩ := traK_some hcall rest q1 _ σ1 _ r h4 h5
      exact ⟨_, (t, σ, v) :: m, t', σ', q', by simp only [runT, settle_eq, fVal_eq, putK_eq, hw, h2, h6], .cons hR h7, by simpa using h8, h9, h10⟩
    · obtain ⟨q1, h4, h5⟩ := wrK_some hR h1
      obtain ⟨l, m, t', σ', q', h6, h7, h8, h9, h10⟩ := traK_some hcall rest q1 _ σ _ r h4 h5
      exact ⟨_, (t, σ, undef) :: m, t', σ', q', by simp only [runT, putK_eq, hw, h6], .cons hR h7, by simpa using h8, h9, h10⟩

noncomputable def nthE (l : List EQ) : Nat → (EQ → Option α) → Option α :=
  List.rec (motive := fun _ => Nat → (EQ → Option α) → Option α) (fun _ _ => none)
    (fun c _ ih n k => Nat.rec (motive := fun _ => Option α) (k c) (fun m _ => ih m k) n) l

theorem nthE_some {d n : Nat} : ∀ (l : List EQ) (m : List Ent) (i : Nat) (k : EQ → Option α) (r : α), RepE d n l m → nthE l i k = some r → ∃ e t, m[i]? = some (t, e.σ, e.v) ∧ Rep d n e.q t ∧ k e = some r
  | [], _, i, k, r, _, h => by cases h
  | c :: l, _, 0, k, r, .cons h1 _, h => ⟨_, _, rfl, h1, h⟩
  | c :: l, _, i + 1, k, r, .cons _ h2, h => by
    obtain ⟨e, t, g1, g2, g3⟩ := nthE_some l _ i k r h2 h
    exact ⟨e, t, by simpa using g1, g2, g3⟩

def veqF : Value → Value → Bool
  | .int k a, .int j b => Nat.beq (kix k) (kix j) && eqI a b
  | .bool a, .bool b => a == b
  | v, u => veq v u
theorem veqF_veq {v u : Value} (h : veqF v u = true) : veq v u = true := by
  unfold veqF at h
  split at h
  · simp only [Bool.and_eq_true] at h
    have h1 := kix_inj h.1
    have h2 := h.2
    rw [eqI_eq] at h2
    simp only [beq_iff_eq] at h2
    subst h1 h2
    simp [veq]
  · simpa [veq] using h
  · exact h

abbrev callN : CallK := fun _ _ _ _ => none

noncomputable def readsK (P : Program) (tb : Tb) (d n : Nat) (tr : List EQ) (op : Op) (q : Q) (v : Value) (y : Option α) (qs : List Nat) : Option α :=
  List.rec (motive := fun _ => Option α) y
    (fun j _ ih => nthE tr j fun e => opF P tb callN d n op q e.σ fun u _ => Bool.rec (motive := fun _ => Option α) none ih (veqF u v)) qs
noncomputable def dynK (P : Program) (tb : Tb) (d n : Nat) (all : List Oper) (tr : List EQ) (y : Option α) (info : List (Nat × List Nat)) : Option α :=
  List.rec (motive := fun _ => Option α) y
    (fun x _ ih => Option.rec (motive := fun _ => Option α) none
      (fun o => nthE tr x.1 fun e => wantK d n e.q (gdOf all o) (readsK P tb d n tr o.op e.q e.v ih x.2) ih) all[x.1]?) info

theorem CKok_none : CKok callN call := fun _ _ _ _ _ h => by cases h

theorem readsK_some {tr : List EQ} {m : List Ent} (hE : RepE d n tr m) {op : Op} {q : Q} {t : Tm} (hR : Rep d n q t) {v : Value} {y : Option α} {r : α} : ∀ (qs : List Nat), readsK P tb d n tr op q v y qs = some r →
    (∀ j ∈ qs, ∃ tj σj vj u s, m[j]? = some (tj, σj, vj) ∧ execO P tb call (opd t) op σj = some (u, s) ∧ veq u v = true) ∧ y = some r
  | [], h => ⟨by simp, h⟩
  | j :: qs, h => by
    obtain ⟨e, te, h1, h2, h3⟩ := nthE_some tr m j _ r hE (show nthE tr j _ = some r from h)
    obtain ⟨u, σ', h4, h5⟩ := opF_some (call := call) CKok_none hR h3
    cases hv : veqF u v with
    | false => rw [hv] at h5; cases h5
    | true =>
      rw [hv] at h5
      obtain ⟨g1, g2⟩ := readsK_some hE hR qs h5
      refine ⟨?_, g2⟩
      intro j' hj'
      rcases List.mem_cons.1 hj' with rfl | hj'
      · exact ⟨_, _, _, u, σ', h1, h4, veqF_veq hv⟩
      · exact g1 j' hj'

theorem dynK_some {all : List Oper} {tr : List EQ} {m : List Ent} (hE : RepE d n tr m) {y : Option α} {r : α} : ∀ (info : List (Nat × List Nat)), dynK P tb d n all tr y info = some r →
    dynB P tb call all m info = true ∧ y = some r
  | [], h => ⟨rfl, h⟩
  | x :: info, h => by
    simp only [dynK] at h
    cases ho : all[x.1]? with
    | none => rw [ho] at h; cases h
    | some o =>
      rw [ho] at h
      obtain ⟨e, te, h1, h2, h3⟩ := nthE_some tr m x.1 _ r hE h
      rcases wantK_some h2 h3 with ⟨hw, h4⟩ | ⟨hw, h4⟩
      · obtain ⟨g1, g2⟩ := readsK_some (call := call) hE h2 x.2 h4
        obtain ⟨g3, g4⟩ := dynK_some hE info g2
        refine ⟨?_, g4⟩
        unfold dynB at g3 ⊢
        rw [List.all_cons, g3]
        simp only [ho, h1, hw, Bool.not_true, Bool.false_or, Bool.and_true, List.all_eq_true]
        intro j hj
        obtain ⟨tj, σj, vj, u, s, k1, k2, k3⟩ := g1 j hj
        simp only [k1, k2, k3]
      · obtain ⟨g3, g4⟩ := dynK_some hE info h4
        refine ⟨?_, g4⟩
        unfold dynB at g3 ⊢
        rw [List.all_cons, g3]
        simp only [ho, h1, hw, Bool.not_false, Bool.true_or, Bool.and_self]

end Go.Det
