/- Det, part Y2: operations by class. -/
import Derived.Test.YtddblfiinmbifaaGreatDetY
namespace Go.Det

variable {P : Program} {tb : Tb} {call : CallF} {d n : Nat} {q : Q} {t : Tm} {σ : St}

inductive Cls where
  | mv (x : Operand)
  | bin (b : BinOp) (x y : Operand)
  | fld (x : Operand) (off : Nat)
  | idxS (x ix : Operand) (sz : Nat)
  | idxA (x ix : Operand) (len sz : Nat)
  | nilc (x : Operand)
  | ld (a : Operand)
  | st (a v : Operand)
  | pick (c a b : Operand)
  | call (f : Operand) (args : List Operand)
  | ext (x : Operand) (i : Nat)
  | gen

def cls (tb : Tb) (op : Op) : Cls :=
  match op with
  | .move x | .assign x => .mv x
  | .binOp b _ x y _ => .bin b x y
  | .fieldAddr s x f => match tb.und s with
    | some (.struct fs) => match fs[f]? with
      | some fd => match tb.inf fd.type with
        | some ti => match Nat.beq ti.size 0 with | true => .gen | false => .fld x fd.offset
        | none => .gen
      | none => .gen
    | _ => .gen
  | .indexAddr ty x ix => match tb.und ty with
    | some (.slice elem) => match tb.inf elem with | some ti => .idxS x ix ti.size | none => .gen
    | some (.array len elem) => match tb.inf elem with | some ti => .idxA x ix len ti.size | none => .gen
    | _ => .gen
  | .nilCheck x => .nilc x
  | .load ty a => match tb.und ty with
    | some (.struct _) | some (.array _ _) | none => .gen
    | some _ => .ld a
  | .store ty a v => match tb.inf ty with
    | some ti => match Nat.beq ti.size 1 with | true => .st a v | false => .gen
    | none => .gen
  | .pick c a b => .pick c a b
  | .call { callee := .value f, args, argTypes := _ } => .call f args.toList
  | .extract x i => .ext x i
  | _ => .gen

abbrev CallK := Fn → List Value → St → (Value → St → Option α) → Option α

def CKok (callK : CallK) (call : CallF) : Prop := ∀ f args σ k r, callK f args σ k = some r → ∃ v σ', call f args σ = some (v, σ') ∧ k v σ' = some r

/-! ## the generic way -/
noncomputable def getV (p : List D4) : Q → Option Value :=
  List.rec (motive := fun _ => Q → Option Value)
    (fun q => Q.rec (motive := fun _ => Option Value) (fun v => some v) (fun _ _ _ _ _ _ _ _ => none) q)
    (fun x _ ih q => Q.rec (motive := fun _ => Option Value) (fun _ => none) (fun a b c d _ _ _ _ => D4.rec (motive := fun _ => Option Value) (ih a) (ih b) (ih c) (ih d) x) q) p

theorem getV_eq : ∀ (p : List D4) (q : Q), getV p q = q.get p
  | [], q => by cases q <;> rfl
  | x :: p, q => by
    cases q with
    | l v => cases x <;> rfl
    | n a b c d => cases x <;> exact getV_eq p _

noncomputable def opdQ (d n : Nat) (q : Q) (x : Operand) : Option Value :=
  Operand.rec (motive := fun _ => Option Value)
    (fun i => Option.rec (motive := fun _ => Option Value) none (fun p => getV p q) (pth d n i))
    (fun v => Bool.rec (motive := fun _ => Option Value) none (some v) (flat v))
    (fun _ => none)
    (fun f => some (.func (.func f) #[] #[])) x

theorem opdQ_some (hR : Rep d n q t) {x : Operand} {v : Value} (h : opdQ d n q x = some v) : opd t x = some v := by
  cases x with
  | tmp i =>
    simp only [opdQ] at h
    cases hp : pth d n i with
    | none => rw [hp] at h; cases h
    | some p =>
      rw [hp] at h
      simp only [getV_eq] at h
      simp only [opd, List.getD, hR.2 _ _ _ hp h, Option.getD_some]
  | const u =>
    simp only [opdQ] at h
    cases hf : flat u with
    | false => rw [hf] at h; cases h
    | true => rw [hf] at h; cases h; simp [opd, hf]
  | global g => cases h
  | func f => cases h; rfl

noncomputable def genF (P : Program) (tb : Tb) (d n : Nat) (op : Op) (q : Q) (σ : St) (k : Value → St → Option α) : Option α :=
  match op.operands.toList.all fun x => (opdQ d n q x).isSome with
  | true => match execO P tb (fun _ _ _ => none) (opdQ d n q) op σ with
    | some (v, σ') => settle (opdQ d n q) op σ.next σ' fun σ' => fVal v fun v => k v σ'
    | none => none
  | false => none

theorem execO_nocall {ρ : Operand → Option Value} {op : Op} {x : Value × St} (h : execO P tb (fun _ _ _ => none) ρ op σ = some x) : execO P tb call ρ op σ = some x := by
  unfold execO at h ⊢
  split at h <;> try exact h
  split at h <;> cases h

theorem genF_some (hR : Rep d n q t) {op : Op} {k : Value → St → Option α} {r : α} (h : genF P tb d n op q σ k = some r) : ∃ v σ', execO P tb call (opd t) op σ = some (v, σ') ∧ k v σ' = some r := by
  unfold genF at h
  split at h
  · rename_i hall
    split at h
    · rename_i v σ' hx
      rw [settle_eq, fVal_eq] at h
      refine ⟨v, σ', ?_, h⟩
      rw [execO_same (ρ₂ := opd t)] at hx
      · exact execO_nocall hx
      · intro x hxm
        have := List.all_eq_true.1 hall x (by simpa using hxm)
        cases hq : opdQ d n q x with
        | none => rw [hq] at this; cases this
        | some u => rw [opdQ_some hR hq]
    · cases h
  · cases h

/-! ## the quick ways -/
noncomputable def mvF (d n : Nat) (x : Operand) (q : Q) (σ : St) (k : Value → St → Option α) : Option α := rdK d n q x fun v => k v σ
noncomputable def binC (z : Q → St → (Value → St → Option α) → Option α) (d n : Nat) (b : BinOp) (x y : Operand) (q : Q) (σ : St) (k : Value → St → Option α) : Option α :=
  rdK d n q x fun a => rdK d n q y fun c => binK b a c (fun v => k v σ) (z q σ k)
noncomputable def fldK (σ : St) (k : Value → St → Option α) (off : Nat) (v : Value) : Option α := match v with
  | .pointer (some ⟨m, o, none⟩) => forceN (o + off) fun o => k (.pointer (some ⟨m, o, none⟩)) σ
  | _ => none
noncomputable def fldC (d n : Nat) (x : Operand) (off : Nat) (q : Q) (σ : St) (k : Value → St → Option α) : Option α := rdK d n q x (fldK σ k off)
noncomputable def ixK (σ : St) (k : Value → St → Option α) (b o sz len : Nat) (i : Value) : Option α := match i with
  | .int _ (.ofNat m) => Bool.rec (motive := fun _ => Option α) none (forceN (o + m * sz) fun o => k (.pointer (some ⟨b, o, none⟩)) σ) (Nat.blt m len)
  | _ => none
noncomputable def idxSK (d n : Nat) (q : Q) (σ : St) (k : Value → St → Option α) (ix : Operand) (sz : Nat) (v : Value) : Option α := match v with
  | .slice (some ⟨b, o, none⟩) len _ => rdK d n q ix (ixK σ k b o sz len)
  | _ => none
noncomputable def idxSC (d n : Nat) (x ix : Operand) (sz : Nat) (q : Q) (σ : St) (k : Value → St → Option α) : Option α := rdK d n q x (idxSK d n q σ k ix sz)
noncomputable def idxAK (d n : Nat) (q : Q) (σ : St) (k : Value → St → Option α) (ix : Operand) (len sz : Nat) (v : Value) : Option α := match v with
  | .pointer (some ⟨b, o, none⟩) => rdK d n q ix (ixK σ k b o sz len)
  | _ => none
noncomputable def idxAC (d n : Nat) (x ix : Operand) (len sz : Nat) (q : Q) (σ : St) (k : Value → St → Option α) : Option α := rdK d n q x (idxAK d n q σ k ix len sz)
noncomputable def nilK (σ : St) (k : Value → St → Option α) (v : Value) : Option α := match v with
  | .pointer (some a) => k (.pointer (some a)) σ
  | .func (.func f) fi ca => k (.func (.func f) fi ca) σ
  | _ => none
noncomputable def nilcC (d n : Nat) (x : Operand) (q : Q) (σ : St) (k : Value → St → Option α) : Option α := rdK d n q x (nilK σ k)
noncomputable def cellK (k : Value → Option α) (o : Nat) (B : Ob) : Option α := match B with
  | .cells cs => nthK cs o k
  | _ => none
noncomputable def ldK (σ : St) (k : Value → St → Option α) (v : Value) : Option α := match v with
  | .pointer (some ⟨m, o, none⟩) => getO σ.hp m (cellK (fun v => k v σ) o)
  | _ => none
noncomputable def ldC (d n : Nat) (a : Operand) (q : Q) (σ : St) (k : Value → St → Option α) : Option α := rdK d n q a (ldK σ k)
noncomputable def pokeK (σ : St) (k : Value → St → Option α) (m o : Nat) (v : Value) (B : Ob) : Option α := match B with
  | .cells cs => setL cs o v fun cs' => putO σ.hp m (.cells cs') fun h => k undef ⟨h, σ.next⟩
  | _ => none
def scal : Value → Bool
  | .agg _ => false
  | v => v.oneCell'
noncomputable def stK (σ : St) (k : Value → St → Option α) (z : Option α) (p v : Value) : Option α := match p with
  | .pointer (some ⟨m, o, none⟩) => Bool.rec (motive := fun _ => Option α) z (getO σ.hp m (pokeK σ k m o v)) (scal v)
  | _ => none
noncomputable def stC (z : Q → St → (Value → St → Option α) → Option α) (d n : Nat) (a v : Operand) (q : Q) (σ : St) (k : Value → St → Option α) : Option α := rdK d n q a fun p => rdK d n q v (stK σ k (z q σ k) p)
noncomputable def pickK (σ : St) (k : Value → St → Option α) (a b v : Value) : Option α := match v with
  | .bool t => Bool.rec (motive := fun _ => Option α) (k b σ) (k a σ) t
  | _ => none
noncomputable def pickC (d n : Nat) (c a b : Operand) (q : Q) (σ : St) (k : Value → St → Option α) : Option α :=
  rdK d n q a fun va => rdK d n q b fun vb => rdK d n q c (pickK σ k va vb)
noncomputable def callVK (callK : CallK) (σ : St) (k : Value → St → Option α) (fv : Value) (vs : List Value) : Option α := match fv with
  | .func (.func g) fi ca => callK (.func g) (fi.toList ++ vs ++ ca.toList) σ k
  | .func (.yield l) _ _ => callK (.yield l) vs σ k
  | _ => none
noncomputable def callC (callK : CallK) (d n : Nat) (f : Operand) (args : List Operand) (q : Q) (σ : St) (k : Value → St → Option α) : Option α :=
  rdK d n q f fun fv => rdsK d n q args (callVK callK σ k fv)
noncomputable def extK (σ : St) (k : Value → St → Option α) (i : Nat) (v : Value) : Option α := match v with
  | .tuple ⟨vs⟩ => nthK vs i fun v => k v σ
  | _ => none
noncomputable def extC (d n : Nat) (x : Operand) (i : Nat) (q : Q) (σ : St) (k : Value → St → Option α) : Option α := rdK d n q x (extK σ k i)

noncomputable def opF (P : Program) (tb : Tb) (callK : CallK) (d n : Nat) (op : Op) (q : Q) (σ : St) (k : Value → St → Option α) : Option α :=
  Cls.rec (motive := fun _ => Q → St → (Value → St → Option α) → Option α) (mvF d n) (binC (genF P tb d n op) d n) (fldC d n) (idxSC d n) (idxAC d n) (nilcC d n) (ldC d n)
    (stC (genF P tb d n op) d n) (pickC d n) (callC callK d n) (extC d n) (genF P tb d n op) (cls tb op) q σ k

theorem scal_cells {v : Value} (h : scal v = true) : v.cells = #[v] ∧ v.oneCell' = true := by
  cases v <;> simp_all [scal, Value.cells]

theorem opF_some {callK : CallK} (hcall : CKok callK call) (hR : Rep d n q t) {op : Op} {k : Value → St → Option α} {r : α} (h : opF P tb callK d n op q σ k = some r) :
    ∃ v σ', execO P tb call (opd t) op σ = some (v, σ') ∧ k v σ' = some r := by
  have gen : genF P tb d n op q σ k = some r → _ := fun h => genF_some (call := call) hR h
  unfold opF at h
  cases op
  case move x =>
    obtain ⟨v, h1, h2⟩ := rdK_some hR (show rdK d n q x (fun v => k v σ) = some r from h)
    exact ⟨v, σ, by simp only [execO, kindOf, pureF, h1], h2⟩
  case assign x =>
    obtain ⟨v, h1, h2⟩ := rdK_some hR (show rdK d n q x (fun v => k v σ) = some r from h)
    exact ⟨v, σ, by simp only [execO, kindOf, pureF, h1], h2⟩
  case binOp b ty x y u =>
    obtain ⟨a, h1, h2⟩ := rdK_some hR (show rdK d n q x _ = some r from h)
    obtain ⟨c, h3, h4⟩ := rdK_some hR h2
    rcases binK_some (P := P) (tb := tb) (ty := ty) (ox := x) (oy := y) h4 with ⟨v, h5, h6⟩ | h5
    · exact ⟨v, σ, by simp only [execO, kindOf, pureF, h1, h3, h5], h6⟩
    · exact gen h5
  case pick c a b =>
    obtain ⟨va, h1, h2⟩ := rdK_some hR (show rdK d n q a _ = some r from h)
    obtain ⟨vb, h3, h4⟩ := rdK_some hR h2
    obtain ⟨vc, h5, h6⟩ := rdK_some hR h4
    unfold pickK at h6
    split at h6
    · rename_i tt
      cases tt
      · exact ⟨vb, σ, by simp [execO, kindOf, pureF, h1, h3, h5], h6⟩
      · exact ⟨va, σ, by simp [execO, kindOf, pureF, h1, h3, h5], h6⟩
    · cases h6
  case nilCheck x =>
    obtain ⟨v, h1, h2⟩ := rdK_some hR (show rdK d n q x _ = some r from h)
    unfold nilK at h2
    split at h2
    · exact ⟨_, σ, by simp only [execO, kindOf, pureF, h1], h2⟩
    · exact ⟨_, σ, by simp only [execO, kindOf, pureF, h1], h2⟩
    · cases h2
  case extract x i =>
    obtain ⟨v, h1, h2⟩ := rdK_some hR (show rdK d n q x _ = some r from h)
    unfold extK at h2
    split at h2
    · obtain ⟨u, h3, h4⟩ := nthK_some _ _ _ _ h2
      exact ⟨u, σ, by simp only [execO, kindOf, pureF, h1, h3], h4⟩
    · cases h2
  case fieldAddr s x f =>
    simp only [cls] at h
    split at h
    case h_2 => exact gen h
    rename_i fs hs
    split at h
    case h_2 => exact gen h
    rename_i fd hf
    split at h
    case h_2 => exact gen h
    rename_i ti hti
    split at h
    · exact gen h
    · rename_i hz
      obtain ⟨v, h1, h2⟩ := rdK_some hR (show rdK d n q x _ = some r from h)
      unfold fldK at h2
      split at h2
      · rw [forceN_eq] at h2
        exact ⟨_, σ, by simp only [execO, kindOf, pureF, hs, h1, hf, hti, Nat.ne_of_beq_eq_false hz, if_false], h2⟩
      · cases h2
  case indexAddr ty x ix =>
    have ixs : ∀ {b o sz len : Nat} {i : Value}, ixK σ k b o sz len i = some r → ∃ m, natOf i = some m ∧ m < len ∧ k (.pointer (some ⟨b, o + m * sz, none⟩)) σ = some r := by
      intro b o sz len i hh
      unfold ixK at hh
      split at hh
      · rename_i kd m
        cases hb : Nat.blt m len with
        | false => rw [hb] at hh; cases hh
        | true =>
          rw [hb] at hh
          simp only [forceN_eq] at hh
          exact ⟨m, rfl, (by simpa only [Nat.blt_eq] using hb), hh⟩
      · cases hh
    simp only [cls] at h
    split at h
    · rename_i elem hu
      split at h
      case h_2 => exact gen h
      rename_i ti hti
      obtain ⟨v, h1, h2⟩ := rdK_some hR (show rdK d n q x _ = some r from h)
      unfold idxSK at h2
      split at h2
      · obtain ⟨i, h3, h4⟩ := rdK_some hR h2
        obtain ⟨m, g1, g2, g3⟩ := ixs h4
        exact ⟨_, σ, by simp only [execO, kindOf, pureF, hu, h1, h3, g1, hti, g2, if_true], g3⟩
      · cases h2
    · rename_i len elem hu
      split at h
      case h_2 => exact gen h
      rename_i ti hti
      obtain ⟨v, h1, h2⟩ := rdK_some hR (show rdK d n q x _ = some r from h)
      unfold idxAK at h2
      split at h2
      · obtain ⟨i, h3, h4⟩ := rdK_some hR h2
        obtain ⟨m, g1, g2, g3⟩ := ixs h4
        exact ⟨_, σ, by simp only [execO, kindOf, pureF, hu, h1, h3, g1, hti, g2, if_true], g3⟩
      · cases h2
    · exact gen h
  case load ty a =>
    simp only [cls] at h
    split at h
    · exact gen h
    · exact gen h
    · exact gen h
    · rename_i D hn1 hn2 hu
      obtain ⟨v, h1, h2⟩ := rdK_some hR (show rdK d n q a _ = some r from h)
      unfold ldK at h2
      split at h2
      · rename_i m o
        obtain ⟨B, h3, h4⟩ := getO_some _ _ _ _ h2
        unfold cellK at h4
        split at h4
        · rename_i cs
          obtain ⟨u, h5, h6⟩ := nthK_some _ _ _ _ h4
          refine ⟨u, σ, ?_, h6⟩
          have hld : ldVar tb ty σ (.pointer (some ⟨m, o, none⟩)) = some u := by
            unfold ldVar
            simp only [St.cellsAt, h3]
            rw [hu]
            split
            · rename_i e; cases e; exact absurd rfl (hn1 _)
            · rename_i e; cases e; exact absurd rfl (hn2 _ _)
            · exact h5
            · rename_i e; cases e
          simp only [execO, kindOf, pureF, readF, h1, hld]
        · cases h4
      · cases h2
  case store ty a x =>
    simp only [cls] at h
    split at h
    case h_2 => exact gen h
    rename_i ti hti
    split at h
    case h_2 => exact gen h
    rename_i hz
    obtain ⟨p, h1, h2⟩ := rdK_some hR (show rdK d n q a _ = some r from h)
    obtain ⟨v, h3, h4⟩ := rdK_some hR h2
    unfold stK at h4
    split at h4
    · rename_i m o
      cases hs : scal v with
      | false => rw [hs] at h4; exact gen h4
      | true =>
        rw [hs] at h4
        obtain ⟨B, h5, h6⟩ := getO_some _ _ _ _ h4
        unfold pokeK at h6
        split at h6
        · rename_i cs
          obtain ⟨cs', h7, h8⟩ := setL_some _ _ _ _ _ h6
          have h9 := putO_some _ _ _ _ _ h8 (m + 1) (Nat.lt_succ_self _)
          obtain ⟨hc1, hc2⟩ := scal_cells hs
          refine ⟨undef, σ.with m (some (.cells cs')), ?_, h9⟩
          have hst : stVar tb ty σ (.pointer (some ⟨m, o, none⟩)) v = some (σ.with m (some (.cells cs'))) := by
            simp only [stVar, hti, hc1, stCells, St.cellsAt, h5, putCells, h7, List.all_cons, List.all_nil, hc2, Bool.and_self, if_true]
            simp [Nat.eq_of_beq_eq_true hz]
          simp only [execO, kindOf, actF, h1, h3, hst]
        · cases h6
    · cases h4
  case call c =>
    obtain ⟨callee, args, argTypes⟩ := c
    cases callee with
    | value f =>
      obtain ⟨fv, h1, h2⟩ := rdK_some hR (show rdK d n q f _ = some r from h)
      obtain ⟨vs, h3, h4⟩ := rdsK_some hR _ _ _ h2
      unfold callVK at h4
      split at h4
      · obtain ⟨v, σ', h5, h6⟩ := hcall _ _ _ _ _ h4
        exact ⟨v, σ', by simp only [execO, kindOf, target, h1, h3, h5], h6⟩
      · obtain ⟨v, σ', h5, h6⟩ := hcall _ _ _ _ _ h4
        exact ⟨v, σ', by simp only [execO, kindOf, target, h1, h3, h5], h6⟩
      · cases h4
    | _ => exact gen h
  all_goals exact gen h

end Go.Det
