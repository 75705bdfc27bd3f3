/- Det, part Z2: code and calls in continuation form. -/
import Derived.Test.YtddblfiinmbifaaGreatDetZ
namespace Go.Det

variable {P : Program} {tb : Tb} {call : CallF} {callK : CallK} {d n : Nat} {q : Q} {t : Tm} {σ : St}

noncomputable def regK (P : Program) (tb : Tb) (callK : CallK) (d n : Nat) (ops : List Oper) (draw : Bool) (q : Q) (σ : St) (kn : Q → St → Option α) : Option α :=
  Bool.rec (motive := fun _ => Option α) (runK P tb callK d n ops ops q σ kn)
    (Bool.rec (motive := fun _ => Option α) none (traK P tb callK d n ops ops q σ fun l q' σ' => dynK P tb d n ops l (kn q' σ') (infoOf tb ops)) (staB tb ops)) draw

noncomputable def condV (y z : Option α) (v : Value) : Option α := match v with
  | .bool b => Bool.rec (motive := fun _ => Option α) z y b
  | _ => none

noncomputable def newK (σ : St) (B : Ob) (k : St → Option α) : Option α := touchAt true (σ.new B) σ.next fun σ1 => forceN σ1.next fun m => k ⟨σ1.hp, m⟩
theorem newK_eq (σ : St) (B : Ob) (k : St → Option α) : newK σ B k = k (σ.new B) := by simp only [newK, touchAt_eq, forceN_eq]

noncomputable def endO (q : Q) (σ : St) (l : Nat) (kn : Q → St → Option α) (kx : Nat → Q → St → Option α) (kr : Q → St → Option α) (B : Ob) : Option α := match B with
  | .loop ps t asg body .ready none => putO σ.hp l (.loop ps t asg body .exhausted none) fun h => kn q ⟨h, σ.next⟩
  | .loop ps t asg body .done (some .ret) => putO σ.hp l (.loop ps t asg body .exhausted (some .ret)) fun h => kr q ⟨h, σ.next⟩
  | .loop ps t asg body .done (some (.exit i)) => putO σ.hp l (.loop ps t asg body .exhausted (some (.exit i))) fun h => kx i q ⟨h, σ.next⟩
  | _ => none

noncomputable def rangeV (tb : Tb) (callK : CallK) (d n : Nat) (ps : Array Tmp) (asg body : Code) (q : Q) (σ : St) (kn : Q → St → Option α) (kx : Nat → Q → St → Option α) (kr : Q → St → Option α) (gv : Value) : Option α :=
  match gv with
  | .func (.func gi) fi ca => Bool.rec (motive := fun _ => Option α) none
      (rdsK d n q ((List.range n).map Operand.tmp) fun t => newK σ (.loop ps t asg body .ready none) fun σ1 =>
        callK (.func gi) (fi.toList ++ .func (.yield σ.next) #[] #[] :: ca.toList) σ1 fun _ σ' => getO σ'.hp σ.next (endO q σ' σ.next kn kx kr)) (bodied tb gi)
  | _ => none

abbrev DK := Q → St → (Q → St → Option α) → (Nat → Q → St → Option α) → (Q → St → Option α) → Option α

noncomputable def denK (P : Program) (tb : Tb) (callK : CallK) (d n fuel : Nat) (top : Bool) (c : Code) : DK :=
  Code.rec (motive := fun _ => DK)
    (fun q σ kn _ _ => kn q σ)
    (fun _ ops draw q σ kn _ _ => regK P tb callK d n ops.toList draw q σ kn)
    (fun _ _ iha ihb q σ kn kx kr => iha q σ (fun q σ => ihb q σ kn kx kr) kx kr)
    (fun c _ _ iha ihb q σ kn kx kr => rdK d n q c (condV (iha q σ kn kx kr) (ihb q σ kn kx kr)))
    (fun id _ ih q σ kn kx kr => ih q σ kn (fun i q σ => Bool.rec (motive := fun _ => Option α) (kx i q σ) (kn q σ) (Nat.beq i id)) kr)
    (fun _ ih q σ kn kx kr => Nat.rec (motive := fun _ => Q → St → Option α) (fun _ _ => none) (fun _ it q σ => ih q σ it kx kr) fuel q σ)
    (fun g ps asg body _ _ q σ kn kx kr => Bool.rec (motive := fun _ => Option α) none (rdK d n q g (rangeV tb callK d n ps asg body q σ kn kx kr)) top)
    (fun id q σ _ kx _ => kx id q σ)
    (fun _ _ _ _ _ _ _ => none)
    (fun _ _ _ _ _ _ => none)
    (fun _ _ _ _ _ _ => none)
    (fun q σ _ _ kr => kr q σ)
    (fun _ _ _ _ _ _ => none) c

def exK (kn : Q → St → Option α) (kx : Nat → Q → St → Option α) (kr : Q → St → Option α) (q : Q) (σ : St) : Ex → Option α
  | .normal => kn q σ
  | .exit i => kx i q σ
  | .ret => kr q σ

theorem mapM_tmps (t : Tm) : ∀ (l : List Nat), (l.map Operand.tmp).mapM (opd t) = some (l.map fun i => t.getD i undef)
  | [] => rfl
  | i :: l => by simp [mapM_tmps t l, opd]

theorem denK_some (hcall : CKok callK call) (fuel : Nat) (top : Bool) : ∀ (c : Code) (q : Q) (t : Tm) (σ : St) (kn : Q → St → Option α) (kx : Nat → Q → St → Option α) (kr : Q → St → Option α) (r : α),
    Rep d n q t → denK P tb callK d n fuel top c q σ kn kx kr = some r →
    ∃ e t' σ' q', den P tb call fuel top c t σ = some (e, t', σ') ∧ Rep d n q' t' ∧ exK kn kx kr q' σ' e = some r := by
  intro c
  induction c with
  | skip => intro q t σ kn kx kr r hR h; exact ⟨.normal, t, σ, q, rfl, hR, h⟩
  | region id ops draw =>
    intro q t σ kn kx kr r hR h
    replace h : regK P tb callK d n ops.toList draw q σ kn = some r := h
    cases draw with
    | false =>
      obtain ⟨t', σ', q', h1, h2, h3⟩ := runK_some hcall ops.toList q t σ kn r hR h
      exact ⟨.normal, t', σ', q', by simp only [den, h1], h2, h3⟩
    | true =>
      simp only [regK] at h
      cases hs : staB tb ops.toList with
      | false => rw [hs] at h; cases h
      | true =>
        rw [hs] at h
        obtain ⟨l, m, t', σ', q', h1, h2, h3, h4, h5⟩ := traK_some hcall ops.toList q t σ _ r hR h
        obtain ⟨g1, g2⟩ := dynK_some (call := call) h2 _ h5
        exact ⟨.normal, t', σ', q', by simp only [den, hs, h1, g1, if_true, h3], h4, g2⟩
  | seq x y ihx ihy =>
    intro q t σ kn kx kr r hR h
    obtain ⟨e, t1, σ1, q1, h1, h2, h3⟩ := ihx q t σ _ kx kr r hR h
    cases e with
    | normal =>
      obtain ⟨e, t2, σ2, q2, g1, g2, g3⟩ := ihy q1 t1 σ1 kn kx kr r h2 h3
      exact ⟨e, t2, σ2, q2, by simp only [den, h1, g1], g2, g3⟩
    | exit i => exact ⟨.exit i, t1, σ1, q1, by simp only [den, h1], h2, h3⟩
    | ret => exact ⟨.ret, t1, σ1, q1, by simp only [den, h1], h2, h3⟩
  | cond c x y ihx ihy =>
    intro q t σ kn kx kr r hR h
    obtain ⟨v, h1, h2⟩ := rdK_some hR (show rdK d n q c _ = some r from h)
    unfold condV at h2
    split at h2
    · rename_i b
      cases b with
      | true =>
        obtain ⟨e, t2, σ2, q2, g1, g2, g3⟩ := ihx q t σ kn kx kr r hR h2
        exact ⟨e, t2, σ2, q2, by simp only [den, h1, g1], g2, g3⟩
      | false =>
        obtain ⟨e, t2, σ2, q2, g1, g2, g3⟩ := ihy q t σ kn kx kr r hR h2
        exact ⟨e, t2, σ2, q2, by simp only [den, h1, g1], g2, g3⟩
    · cases h2
  | block id x ih =>
    intro q t σ kn kx kr r hR h
    obtain ⟨e, t1, σ1, q1, h1, h2, h3⟩ := ih q t σ kn _ kr r hR h
    cases e with
    | normal => exact ⟨.normal, t1, σ1, q1, by simp only [den, h1], h2, h3⟩
    | ret => exact ⟨.ret, t1, σ1, q1, by simp only [den, h1], h2, h3⟩
    | exit i =>
      simp only [exK] at h3
      cases hb : Nat.beq i id with
      | true =>
        rw [hb] at h3
        exact ⟨.normal, t1, σ1, q1, by simp only [den, h1, Nat.eq_of_beq_eq_true hb, if_true], h2, h3⟩
      | false =>
        rw [hb] at h3
        exact ⟨.exit i, t1, σ1, q1, by simp only [den, h1, Nat.ne_of_beq_eq_false hb, if_false], h2, h3⟩
  | loop x ih =>
    intro q t σ kn kx kr r hR h
    have key : ∀ (m : Nat) (q : Q) (t : Tm) (σ : St), Rep d n q t → (Nat.rec (motive := fun _ => Q → St → Option α) (fun _ _ => none) (fun _ it q σ => denK P tb callK d n fuel top x q σ it kx kr) m q σ : Option α) = some r →
        ∃ e t' σ' q', iter (den P tb call fuel top x) m t σ = some (e, t', σ') ∧ Rep d n q' t' ∧ exK kn kx kr q' σ' e = some r := by
      intro m
      induction m with
      | zero => intro q t σ hR h; cases h
      | succ m ihm =>
        intro q t σ hR h
        obtain ⟨e, t1, σ1, q1, h1, h2, h3⟩ := ih q t σ _ kx kr r hR h
        cases e with
        | normal =>
          obtain ⟨e, t2, σ2, q2, g1, g2, g3⟩ := ihm q1 t1 σ1 h2 h3
          exact ⟨e, t2, σ2, q2, by simp only [iter, h1, g1], g2, g3⟩
        | exit i => exact ⟨.exit i, t1, σ1, q1, by simp only [iter, h1], h2, h3⟩
        | ret => exact ⟨.ret, t1, σ1, q1, by simp only [iter, h1], h2, h3⟩
    obtain ⟨e, t', σ', q', g1, g2, g3⟩ := key fuel q t σ hR h
    exact ⟨e, t', σ', q', by simp only [den]; exact g1, g2, g3⟩
  | exit id => intro q t σ kn kx kr r hR h; exact ⟨.exit id, t, σ, q, rfl, hR, h⟩
  | ret => intro q t σ kn kx kr r hR h; exact ⟨.ret, t, σ, q, rfl, hR, h⟩
  | rangeFunc g ps asg body _ _ =>
    intro q t σ kn kx kr r hR h
    cases top with
    | false => cases h
    | true =>
      obtain ⟨gv, h1, h2⟩ := rdK_some hR (show rdK d n q g _ = some r from h)
      unfold rangeV at h2
      split at h2
      case h_2 => cases h2
      rename_i gi fi ca
      cases hb : bodied tb gi with
      | false => rw [hb] at h2; cases h2
      | true =>
        rw [hb] at h2
        obtain ⟨ts, h3, h4⟩ := rdsK_some hR _ _ _ h2
        rw [mapM_tmps] at h3
        have hts : ts = t := by
          have hlen := hR.1
          simp only [Option.some.injEq] at h3
          subst h3
          apply List.ext_getElem?
          intro i
          rw [List.getElem?_map]
          by_cases hi : i < n
          · rw [List.getElem?_range hi]
            simp [List.getD, List.getElem?_eq_getElem (show i < t.length by omega)]
          · rw [List.getElem?_eq_none (show t.length ≤ i by omega), List.getElem?_eq_none (by simpa using hi)]
            rfl
        subst hts
        rw [newK_eq] at h4
        obtain ⟨v, σ', h5, h6⟩ := hcall _ _ _ _ _ h4
        obtain ⟨B, h7, h8⟩ := getO_some _ _ _ _ h6
        unfold endO at h8
        have fin : ∀ {e : Ex} {σ2 : St}, loopEnd ts σ' σ.next = some (e, ts, σ2) → den P tb call fuel true (.rangeFunc g ps asg body) ts σ = some (e, ts, σ2) := by
          intro e σ2 hl
          simp only [den, rangeF, h1, hb, h5]
          exact hl
        split at h8
        · have h9 := putO_some _ _ _ _ _ h8 (σ.next + 1) (Nat.lt_succ_self _)
          exact ⟨.normal, ts, _, q, fin (by unfold loopEnd; rw [h7]; rfl), hR, h9⟩
        · have h9 := putO_some _ _ _ _ _ h8 (σ.next + 1) (Nat.lt_succ_self _)
          exact ⟨.ret, ts, _, q, fin (by unfold loopEnd; rw [h7]; rfl), hR, h9⟩
        · rename_i i
          have h9 := putO_some _ _ _ _ _ h8 (σ.next + 1) (Nat.lt_succ_self _)
          exact ⟨.exit i, ts, _, q, fin (by unfold loopEnd; rw [h7]; rfl), hR, h9⟩
        · cases h8
  | _ => intro q t σ kn kx kr r hR h; cases h

/-! ## frames laid -/
def fullQ : Nat → Q
  | 0 => .l undef
  | d + 1 => .n (fullQ d) (fullQ d) (fullQ d) (fullQ d)

theorem fullQ_get : ∀ (d : Nat) (p : List D4) (v : Value), (fullQ d).get p = some v → v = undef
  | 0, [], v, h => by cases h; rfl
  | 0, _ :: _, v, h => by simp [fullQ, Q.get] at h
  | d + 1, [], v, h => by simp [fullQ, Q.get] at h
  | d + 1, x :: p, v, h => by cases x <;> exact fullQ_get d p v (by simpa [fullQ, Q.get] using h)

theorem rep_full (d n : Nat) : Rep d n (fullQ d) (List.replicate n undef) := by
  refine ⟨by simp, fun i p v hp hv => ?_⟩
  have := fullQ_get d p v hv
  subst this
  simp [(pth_some hp).1]

noncomputable def putsK (d n : Nat) (l : List Value) : Nat → Q → (Q → Option α) → Option α :=
  List.rec (motive := fun _ => Nat → Q → (Q → Option α) → Option α) (fun _ q k => k q) (fun v _ ih i q k => wrK d n q (some i) v fun q' => ih (Nat.succ i) q' k) l

theorem putsK_some : ∀ (l : List Value) (pre : List Value) (m : Nat) (q : Q) (k : Q → Option α) (r : α), Rep d n q (pre ++ List.replicate m undef) → l.length ≤ m → putsK d n l pre.length q k = some r →
    ∃ q', Rep d n q' (pre ++ l ++ List.replicate (m - l.length) undef) ∧ k q' = some r
  | [], pre, m, q, k, r, hR, _, h => ⟨q, by simpa using hR, h⟩
  | v :: l, pre, m, q, k, r, hR, hm, h => by
    obtain ⟨q1, h1, h2⟩ := wrK_some (dst := some pre.length) hR (show wrK d n q (some pre.length) v _ = some r from h)
    cases m with
    | zero => simp at hm
    | succ m =>
      have e : putT (pre ++ List.replicate (m + 1) undef) (some pre.length) v = (pre ++ [v]) ++ List.replicate m undef := by
        simp [putT, List.replicate_succ]
      rw [e] at h1
      obtain ⟨q', g1, g2⟩ := putsK_some l (pre ++ [v]) m q1 k r h1 (by simpa using hm) (by rw [List.length_append]; exact h2)
      exact ⟨q', by simpa using g1, g2⟩

def dep (n : Nat) : Nat := match Nat.ble n 16, Nat.ble n 64, Nat.ble n 256 with
  | true, _, _ => 2 | _, true, _ => 3 | _, _, true => 4 | _, _, _ => 6

noncomputable def initK (d n : Nat) (l : List Value) (k : Q → Option α) : Option α :=
  Bool.rec (motive := fun _ => Option α) none (putsK d n l 0 (fullQ d) k) (Nat.ble l.length n)

theorem initK_some {l : List Value} {k : Q → Option α} {r : α} (h : initK d n l k = some r) : ∃ q, Rep d n q (l ++ List.replicate (n - l.length) undef) ∧ k q = some r := by
  unfold initK at h
  cases hb : Nat.ble l.length n with
  | false => rw [hb] at h; cases h
  | true =>
    rw [hb] at h
    have := putsK_some (d := d) (n := n) l [] n (fullQ d) k r (by simpa using rep_full d n) (Nat.le_of_ble_eq_true hb) h
    simpa using this

end Go.Det
