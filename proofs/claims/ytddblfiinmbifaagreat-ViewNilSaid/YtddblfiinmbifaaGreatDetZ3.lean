/- Det, part Z3: calls in continuation form. -/
import Derived.Test.YtddblfiinmbifaaGreatDetZ2
namespace Go.Det

variable {P : Program} {tb : Tb} {call : CallF} {callK : CallK} {d n : Nat} {q : Q} {t : Tm} {σ : St}

/-! ## results -/
noncomputable def resOneK (tb : Tb) (d n : Nat) (q : Q) (σ : St) (r : ResultVar) (k : Value → Option α) : Option α :=
  ResultVar.rec (motive := fun _ => Option α) (fun s => rdK d n q (.tmp s) k)
    (fun a ty => rdK d n q (.tmp a) fun p => Option.rec (motive := fun _ => Option α) none (fun v => fVal v k) (ldVar tb ty σ p)) r
noncomputable def resK (tb : Tb) (d n : Nat) (q : Q) (σ : St) (l : List ResultVar) : (List Value → Option α) → Option α :=
  List.rec (motive := fun _ => (List Value → Option α) → Option α) (fun k => k []) (fun r _ ih k => resOneK tb d n q σ r fun v => ih fun vs => k (v :: vs)) l
noncomputable def outK (k : Value → Option α) (vs : List Value) : Option α := match vs with
  | [v] => k v
  | vs => k (.tuple ⟨vs⟩)

theorem resOneK_some (hR : Rep d n q t) {r : ResultVar} {k : Value → Option α} {x : α} (h : resOneK tb d n q σ r k = some x) : ∃ v, resOne tb t σ r = some v ∧ k v = some x := by
  cases r with
  | tmp s =>
    obtain ⟨v, h1, h2⟩ := rdK_some hR (show rdK d n q (.tmp s) k = some x from h)
    exact ⟨v, by simpa [resOne, opd] using h1, h2⟩
  | cell a ty =>
    obtain ⟨p, h1, h2⟩ := rdK_some hR (show rdK d n q (.tmp a) _ = some x from h)
    simp only [opd, Option.some.injEq] at h1
    subst h1
    cases hl : ldVar tb ty σ (t.getD a undef) with
    | none => rw [hl] at h2; cases h2
    | some v =>
      rw [hl] at h2
      simp only [fVal_eq] at h2
      exact ⟨v, hl, h2⟩

theorem resK_some (hR : Rep d n q t) : ∀ (l : List ResultVar) (k : List Value → Option α) (x : α), resK tb d n q σ l k = some x → ∃ vs, l.mapM (resOne tb t σ) = some vs ∧ k vs = some x
  | [], k, x, h => ⟨[], rfl, h⟩
  | r :: l, k, x, h => by
    obtain ⟨v, h1, h2⟩ := resOneK_some hR h
    obtain ⟨vs, h3, h4⟩ := resK_some hR l _ x h2
    exact ⟨v :: vs, by simp [h1, h3], h4⟩

theorem resF_of (hR : Rep d n q t) {l : List ResultVar} {k : Value → Option α} {x : α} (h : resK tb d n q σ l (outK k) = some x) : ∃ v, resF tb l t σ = some v ∧ k v = some x := by
  obtain ⟨vs, h1, h2⟩ := resK_some hR l _ x h
  rw [resF_mapM h1]
  unfold outK at h2
  split at h2
  · exact ⟨_, rfl, h2⟩
  · rename_i hne
    refine ⟨.tuple vs.toArray, ?_, h2⟩
    match vs, hne with
    | [], _ => rfl
    | [v], hne => exact absurd rfl (hne v)
    | _ :: _ :: _, _ => rfl

/-! ## functions -/
noncomputable def funK (P : Program) (tb : Tb) (callK : CallK) (fuel : Nat) (args : List Value) (σ : St) (k : Value → St → Option α) (d n : Nat) (rs : List ResultVar) (c : Code) : Option α :=
  initK d n args fun q => denK P tb callK d n fuel true c q σ (fun q σ => resK tb d n q σ rs (outK fun v => k v σ)) (fun _ _ _ => none) (fun q σ => resK tb d n q σ rs (outK fun v => k v σ))

noncomputable def bodyK (P : Program) (tb : Tb) (callK : CallK) (fuel : Nat) (args : List Value) (σ : St) (k : Value → St → Option α) (fn : Func) : Option α :=
  Option.rec (motive := fun _ => Option α) none (fun c => forceN fn.ntmps fun n => forceN (dep n) fun d => funK P tb callK fuel args σ k d n fn.results.toList c) fn.body

noncomputable def orcK (k : Value → St → Option α) (x : Option (Value × St)) : Option α := match x with
  | some (v, σ') => fVal v fun v => k v σ'
  | none => none

noncomputable def funcK (P : Program) (tb : Tb) (orc : Orc) (callK : CallK) (fuel : Nat) (f : FuncId) (args : List Value) (σ : St) (k : Value → St → Option α) : Option α :=
  Option.rec (motive := fun _ => Option α) (Option.rec (motive := fun _ => Option α) none (bodyK P tb callK fuel args σ k) (tb.fn f)) (fun m => orcK k (m args σ)) (orc f)

theorem funcK_some (hcall : CKok callK call) {orc : Orc} {fuel f : Nat} {args : List Value} {k : Value → St → Option α} {x : α} (h : funcK P tb orc callK fuel f args σ k = some x) :
    ∃ v σ', funcF P tb orc call fuel f args σ = some (v, σ') ∧ k v σ' = some x := by
  unfold funcK at h
  unfold funcF
  cases ho : orc f with
  | some m =>
    rw [ho] at h
    simp only [orcK] at h
    split at h
    · rename_i v σ' hm
      rw [fVal_eq] at h
      exact ⟨v, σ', by simp only [hm], h⟩
    · cases h
  | none =>
    rw [ho] at h
    simp only at h ⊢
    cases hf : tb.fn f with
    | none => rw [hf] at h; cases h
    | some fn =>
      rw [hf] at h
      simp only [bodyK, forceN_eq] at h
      cases hc : fn.body with
      | none => rw [hc] at h; cases h
      | some c =>
        rw [hc] at h
        obtain ⟨q, h1, h2⟩ := initK_some h
        obtain ⟨e, t', σ', q', h3, h4, h5⟩ := denK_some hcall fuel true c q _ σ _ _ _ x h1 h2
        simp only [fList_eq]
        cases e with
        | normal =>
          obtain ⟨v, g1, g2⟩ := resF_of h4 h5
          exact ⟨v, σ', by simp only [hc, h3, g1], g2⟩
        | ret =>
          obtain ⟨v, g1, g2⟩ := resF_of h4 h5
          exact ⟨v, σ', by simp only [hc, h3, g1], g2⟩
        | exit i => cases h5

/-! ## rounds -/
noncomputable def endRN (σ : St) (l : Nat) (k : Value → St → Option α) (B : Ob) : Option α := match B with
  | .loop ps t asg body _ _ => putO σ.hp l (.loop ps t asg body .ready none) fun h => k (.bool true) ⟨h, σ.next⟩
  | _ => none
noncomputable def endRR (σ : St) (l : Nat) (k : Value → St → Option α) (B : Ob) : Option α := match B with
  | .loop ps t asg body _ _ => putO σ.hp l (.loop ps t asg body .done (some .ret)) fun h => k (.bool false) ⟨h, σ.next⟩
  | _ => none
noncomputable def endRX (σ : St) (l i : Nat) (k : Value → St → Option α) (B : Ob) : Option α := match B with
  | .loop ps t asg body _ _ => putO σ.hp l (.loop ps t asg body .done (some (.exit i))) fun h => k (.bool false) ⟨h, σ.next⟩
  | _ => none
noncomputable def busyK (P : Program) (tb : Tb) (callK : CallK) (d n fuel : Nat) (l : Nat) (body : Code) (q : Q) (σ : St) (k : Value → St → Option α) (B : Ob) : Option α := match B with
  | .loop ps t asg1 body1 .ready pe => putO σ.hp l (.loop ps t asg1 body1 .busy pe) fun h =>
    denK P tb callK d n fuel false body q ⟨h, σ.next⟩ (fun _ σ2 => getO σ2.hp l (endRN σ2 l k)) (fun i _ σ2 => getO σ2.hp l (endRX σ2 l i k)) (fun _ σ2 => getO σ2.hp l (endRR σ2 l k))
  | _ => none
noncomputable def startK (P : Program) (tb : Tb) (callK : CallK) (fuel : Nat) (l : Nat) (args : List Value) (σ : St) (k : Value → St → Option α) (B : Ob) : Option α := match B with
  | .loop ps t0 asg body _ _ => Bool.rec (motive := fun _ => Option α) none
    (forceN t0.length fun n => forceN (dep n) fun d => initK d n (setPs ps.toList args t0) fun q =>
      denK P tb callK d n fuel false asg q σ (fun q1 σ1 => getO σ1.hp l (busyK P tb callK d n fuel l body q1 σ1 k)) (fun _ _ _ => none) (fun _ _ => none)) (Nat.beq args.length ps.size)
  | _ => none
noncomputable def roundK (P : Program) (tb : Tb) (callK : CallK) (fuel : Nat) (l : Nat) (args : List Value) (σ : St) (k : Value → St → Option α) : Option α :=
  getO σ.hp l (startK P tb callK fuel l args σ k)

theorem setPs_length : ∀ (ps : List Tmp) (vs : List Value) (t : Tm), (setPs ps vs t).length = t.length
  | [], _, _ => by simp [setPs]
  | _ :: _, [], _ => by simp [setPs]
  | p :: ps, v :: vs, t => by simp only [setPs]; rw [setPs_length ps vs]; simp

theorem roundK_some (hcall : CKok callK call) {fuel l : Nat} {args : List Value} {k : Value → St → Option α} {x : α} (h : roundK P tb callK fuel l args σ k = some x) :
    ∃ v σ', roundF P tb call fuel l args σ = some (v, σ') ∧ k v σ' = some x := by
  obtain ⟨B, h1, h2⟩ := getO_some _ _ _ _ h
  unfold startK at h2
  split at h2
  case h_2 => cases h2
  rename_i ps t0 asg body st0 pe0
  cases hb : Nat.beq args.length ps.size with
  | false => rw [hb] at h2; cases h2
  | true =>
    rw [hb] at h2
    simp only [forceN_eq] at h2
    obtain ⟨q, h3, h4⟩ := initK_some h2
    rw [setPs_length, Nat.sub_self, List.replicate_zero, List.append_nil] at h3
    obtain ⟨e, t1, σ1, q1, h5, h6, h7⟩ := denK_some hcall fuel false asg q _ σ _ _ _ x h3 h4
    cases e with
    | ret => cases h7
    | exit i => cases h7
    | normal =>
      obtain ⟨B1, g1, g2⟩ := getO_some _ _ _ _ (show getO σ1.hp l _ = some x from h7)
      unfold busyK at g2
      split at g2
      case h_2 => cases g2
      rename_i ps1 t2 asg1 body1 pe1
      have g3 := putO_some _ _ _ _ _ g2 (l + 1) (Nat.lt_succ_self _)
      obtain ⟨e, t3, σ2, q2, g4, g5, g6⟩ := denK_some hcall fuel false body q1 t1 (σ1.with l (some (.loop ps1 t2 asg1 body1 .busy pe1))) _ _ _ x h6 g3
      cases e with
      | normal =>
        obtain ⟨B2, j1, j2⟩ := getO_some _ _ _ _ (show getO σ2.hp l _ = some x from g6)
        unfold endRN at j2
        split at j2
        · have j3 := putO_some _ _ _ _ _ j2 (l + 1) (Nat.lt_succ_self _)
          refine ⟨_, _, ?_, j3⟩
          simp only [roundF, h1, hb, h5, g1, g4, j1]
          rfl
        · cases j2
      | ret =>
        obtain ⟨B2, j1, j2⟩ := getO_some _ _ _ _ (show getO σ2.hp l _ = some x from g6)
        unfold endRR at j2
        split at j2
        · have j3 := putO_some _ _ _ _ _ j2 (l + 1) (Nat.lt_succ_self _)
          refine ⟨_, _, ?_, j3⟩
          simp only [roundF, h1, hb, h5, g1, g4, j1]
          rfl
        · cases j2
      | exit i =>
        obtain ⟨B2, j1, j2⟩ := getO_some _ _ _ _ (show getO σ2.hp l _ = some x from g6)
        unfold endRX at j2
        split at j2
        · have j3 := putO_some _ _ _ _ _ j2 (l + 1) (Nat.lt_succ_self _)
          refine ⟨_, _, ?_, j3⟩
          simp only [roundF, h1, hb, h5, g1, g4, j1]
          rfl
        · cases j2

/-! ## calls -/
noncomputable def callQ (P : Program) (tb : Tb) (orc : Orc) (fuel : Nat) (m : Nat) : CallK :=
  Nat.rec (motive := fun _ => CallK) (fun _ _ _ _ => none)
    (fun _ ih f args σ k => Fn.rec (motive := fun _ => Option α) (fun f => funcK P tb orc ih fuel f args σ k) (fun _ => none) (fun _ _ => none) (fun _ _ _ _ => none)
      (fun l => roundK P tb ih fuel l args σ k) f) m

theorem callQ_ok (orc : Orc) (fuel : Nat) : ∀ m, CKok (callQ P tb orc fuel m) (callF P tb orc fuel m)
  | 0 => fun f args σ k r h => by cases h
  | m + 1 => fun f args σ k r h => by
    cases f with
    | func f =>
      obtain ⟨v, σ', h1, h2⟩ := funcK_some (callQ_ok orc fuel m) (show funcK P tb orc _ fuel f args σ k = some r from h)
      exact ⟨v, σ', by simp only [callF]; exact h1, h2⟩
    | yield l =>
      obtain ⟨v, σ', h1, h2⟩ := roundK_some (callQ_ok orc fuel m) (show roundK P tb _ fuel l args σ k = some r from h)
      exact ⟨v, σ', by simp only [callF]; exact h1, h2⟩
    | _ => cases h

/-- a run that answers true -/
noncomputable def isTrueK (P : Program) (tb : Tb) (orc : Orc) (fuel m : Nat) (f : FuncId) (args : List Value) : Bool :=
  match callQ P tb orc fuel m (.func f) args ⟨.nil, 0⟩ (fun v _ => match v with | .bool true => some () | _ => none) with
  | some _ => true
  | none => false

theorem isTrueK_ok {orc : Orc} {fuel m : Nat} {f : FuncId} {args : List Value} (h : isTrueK P tb orc fuel m f args = true) :
    ∃ σ', callF P tb orc fuel m (.func f) args ⟨.nil, 0⟩ = some (.bool true, σ') := by
  unfold isTrueK at h
  split at h
  · rename_i u hu
    obtain ⟨v, σ', h1, h2⟩ := callQ_ok orc fuel m _ _ _ _ _ hu
    split at h2
    · exact ⟨σ', h1⟩
    · cases h2
  · cases h

end Go.Det
