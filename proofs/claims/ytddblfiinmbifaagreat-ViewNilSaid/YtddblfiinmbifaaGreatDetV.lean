/- Det, part V: all code; calls. -/
import Derived.Test.YtddblfiinmbifaaGreatDetU
namespace Go.Det

variable {φ ψ : Ph} {P : Program} {w w' w₀ : World} {σ σ' : St} {tb : Tb} {call : CallF} {ops : List Oper} {t : Tm}

theorem den_ok (hok : tb.Ok P) (hcall : CallOk P call) (fuel : Nat) (top : Bool) : ∀ (c : Code), StepOk P top c (den P tb call fuel top c) := by
  intro c
  induction c with
  | skip =>
    intro t σ e t' σ' h
    simp only [den, Option.some.injEq, Prod.mk.injEq] at h
    obtain ⟨rfl, rfl, rfl⟩ := h
    exact ⟨Nat.le_refl _, fun r ht B D φ w a Q hA hM hH _ hQ => wpIn_skip (hQ φ D a w hA hM (.refl hH))⟩
  | region id ops draw =>
    intro t σ e t' σ' h
    cases draw with
    | false =>
      simp only [den] at h
      split at h
      · rename_i t1 σ1 hx
        simp only [Option.some.injEq, Prod.mk.injEq] at h
        obtain ⟨rfl, rfl, rfl⟩ := h
        exact ⟨runOps_next hcall _ _ _ _ _ hx, fun r ht B D φ w a Q hA hM hH hN hQ => region_sim hok hcall r hx hA hH hN fun φ' a' w' h1 h2 => hQ φ' D a' w' h1 (hM.post h2 hH hN) h2⟩
      · cases h
    | true =>
      simp only [den] at h
      split at h
      · rename_i hd1
        split at h
        · rename_i tr htr
          split at h
          · rename_i hdy
            split at h
            · rename_i t1 σ1 v1 hlast
              simp only [Option.some.injEq, Prod.mk.injEq] at h
              obtain ⟨rfl, rfl, rfl⟩ := h
              have htr' := tra_of htr hdy
              have hs := sta_of hd1
              have hn := Inv.next_le hcall htr' ops.toList.length (Nat.le_refl _)
              simp only [List.getD, hlast, Option.getD_some] at hn
              refine ⟨hn, fun r ht B D φ w a Q hA hM hH hN hQ => ?_⟩
              have := draw_sim (D := D) r (Q := Q) (id := id) hok hcall hs htr' (by simpa only [List.getD, hlast, Option.getD_some] using hN) hA hH (by
                intro φ' a' w' h1 h2
                simp only [List.getD, hlast, Option.getD_some] at h1 h2
                exact hQ φ' D a' w' h1 (hM.post h2 hH hN) h2)
              simpa using this
            · cases h
          · cases h
        · cases h
      · cases h
  | seq x y ihx ihy =>
    intro t σ e t' σ' h
    simp only [den] at h
    split at h
    · rename_i t1 σ1 hx
      obtain ⟨g1, g2⟩ := ihx _ _ _ _ _ hx
      obtain ⟨k1, k2⟩ := ihy _ _ _ _ _ h
      refine ⟨Nat.le_trans g1 k1, fun r ht B D φ w a Q hA hM hH hN hQ => wpIn_seq ?_⟩
      refine g2 r ht B D φ w a _ hA hM hH (hN.left k1) ?_
      intro φ1 D1 a1 w1 hA1 hM1 p1
      exact k2 r ht B D1 φ1 w1 a1 Q hA1 hM1 p1.rh (hN.right p1) fun φ' D' a' w' h1 h2 h3 => hQ φ' D' a' w' h1 h2 (p1.trans h3 hN)
    · rename_i r hr
      cases hx : den P tb call fuel top x t σ with
      | none => rw [hx] at h; cases h
      | some y' =>
        obtain ⟨e1, t1, σ1⟩ := y'
        rw [hx] at h
        cases e1 with
        | normal => exact absurd hx (hr _ _)
        | exit i =>
          cases h
          obtain ⟨g1, g2⟩ := ihx _ _ _ _ _ hx
          exact ⟨g1, fun r ht B D φ w a Q hA hM hH hN hQ => wpIn_seq (g2 r ht B D φ w a _ hA hM hH hN fun φ1 D1 a1 w1 hA1 hM1 p1 => hQ φ1 D1 a1 w1 hA1 hM1 p1)⟩
        | ret =>
          cases h
          obtain ⟨g1, g2⟩ := ihx _ _ _ _ _ hx
          exact ⟨g1, fun r ht B D φ w a Q hA hM hH hN hQ => wpIn_seq (g2 r ht B D φ w a _ hA hM hH hN fun φ1 D1 a1 w1 hA1 hM1 p1 => hQ φ1 D1 a1 w1 hA1 hM1 p1)⟩
  | cond c x y ihx ihy =>
    intro t σ e t' σ' h
    simp only [den] at h
    split at h
    · rename_i hc
      obtain ⟨g1, g2⟩ := ihx _ _ _ _ _ h
      exact ⟨g1, fun r ht B D φ w a Q hA hM hH hN hQ => wpIn_cond_true (opd_bool hA hc) (g2 r ht B D φ w a Q hA hM hH hN hQ)⟩
    · rename_i hc
      obtain ⟨g1, g2⟩ := ihy _ _ _ _ _ h
      exact ⟨g1, fun r ht B D φ w a Q hA hM hH hN hQ => wpIn_cond_false (opd_bool hA hc) (g2 r ht B D φ w a Q hA hM hH hN hQ)⟩
    · cases h
  | block id x ih =>
    intro t σ e t' σ' h
    simp only [den] at h
    split at h
    · rename_i i t1 σ1 hx
      obtain ⟨g1, g2⟩ := ih _ _ _ _ _ hx
      split at h
      · rename_i hid
        simp only [Option.some.injEq, Prod.mk.injEq] at h
        obtain ⟨rfl, rfl, rfl⟩ := h
        refine ⟨g1, fun r ht B D φ w a Q hA hM hH hN hQ => wpIn_block (g2 r ht B D φ w a _ hA hM hH hN fun φ1 D1 a1 w1 hA1 hM1 p1 => ?_)⟩
        simp only [exOf, Exit.inBlock, hid, if_true]
        exact hQ φ1 D1 a1 w1 hA1 hM1 p1
      · rename_i hid
        simp only [Option.some.injEq, Prod.mk.injEq] at h
        obtain ⟨rfl, rfl, rfl⟩ := h
        refine ⟨g1, fun r ht B D φ w a Q hA hM hH hN hQ => wpIn_block (g2 r ht B D φ w a _ hA hM hH hN fun φ1 D1 a1 w1 hA1 hM1 p1 => ?_)⟩
        simp only [exOf, Exit.inBlock, hid, if_false]
        exact hQ φ1 D1 a1 w1 hA1 hM1 p1
    · rename_i r hr
      obtain ⟨g1, g2⟩ := ih _ _ _ _ _ h
      refine ⟨g1, fun r ht B D φ w a Q hA hM hH hN hQ => wpIn_block (g2 r ht B D φ w a _ hA hM hH hN fun φ1 D1 a1 w1 hA1 hM1 p1 => ?_)⟩
      cases e with
      | normal => exact hQ φ1 D1 a1 w1 hA1 hM1 p1
      | exit i => exact absurd h (hr _ _ _)
      | ret => exact hQ φ1 D1 a1 w1 hA1 hM1 p1
  | loop x ih =>
    intro t σ e t' σ' h
    simp only [den] at h
    exact iter_loop ih fuel _ _ _ _ _ h
  | exit id =>
    intro t σ e t' σ' h
    simp only [den, Option.some.injEq, Prod.mk.injEq] at h
    obtain ⟨rfl, rfl, rfl⟩ := h
    exact ⟨Nat.le_refl _, fun r ht B D φ w a Q hA hM hH _ hQ => wpIn_exit (hQ φ D a w hA hM (.refl hH))⟩
  | ret =>
    intro t σ e t' σ' h
    simp only [den, Option.some.injEq, Prod.mk.injEq] at h
    obtain ⟨rfl, rfl, rfl⟩ := h
    exact ⟨Nat.le_refl _, fun r ht B D φ w a Q hA hM hH _ hQ => wpIn_ret (hQ φ D a w hA hM (.refl hH))⟩
  | rangeFunc g ps asg body =>
    cases top with
    | false => intro t σ e t' σ' h; simp [den] at h
    | true =>
      intro t σ e t' σ' h
      simp only [den] at h
      exact rangeF_ok hok hcall g ps asg body t σ e t' σ' h
  | _ => intro t σ e t' σ' h; simp [den] at h

/-! ## calls -/
def resF (tb : Tb) (rs : List ResultVar) (t : Tm) (σ : St) : Option Value :=
  match rs.mapM (fun r => match r with | .tmp k => some (t.getD k undef) | .cell a ty => ldVar tb ty σ (t.getD a undef)) with
  | some [v] => some v
  | some vs => some (.tuple vs.toArray)
  | none => none

abbrev Orc := FuncId → Option (List Value → St → Option (Value × St))


/-! ## rounds -/
def roundF (P : Program) (tb : Tb) (call : CallF) (fuel : Nat) (l : Nat) (args : List Value) (σ : St) : Option (Value × St) :=
  match σ.hp.get l with
  | some (.loop ps t0 asg body _ _) => match Nat.beq args.length ps.size with
    | true => match den P tb call fuel false asg (setPs ps.toList args t0) σ with
      | some (.normal, t1, σ1) => match σ1.hp.get l with
        | some (.loop ps1 t2 asg1 body1 .ready pe1) => match den P tb call fuel false body t1 (σ1.with l (some (.loop ps1 t2 asg1 body1 .busy pe1))) with
          | some (.normal, _, σ2) => match σ2.hp.get l with
            | some (.loop ps3 t3 asg3 body3 _ _) => some (.bool true, σ2.with l (some (.loop ps3 t3 asg3 body3 .ready none)))
            | _ => none
          | some (.ret, _, σ2) => match σ2.hp.get l with
            | some (.loop ps3 t3 asg3 body3 _ _) => some (.bool false, σ2.with l (some (.loop ps3 t3 asg3 body3 .done (some .ret))))
            | _ => none
          | some (.exit i, _, σ2) => match σ2.hp.get l with
            | some (.loop ps3 t3 asg3 body3 _ _) => some (.bool false, σ2.with l (some (.loop ps3 t3 asg3 body3 .done (some (.exit i)))))
            | _ => none
          | none => none
        | _ => none
      | _ => none
    | false => none
  | _ => none

def jumpOf : Ex → Option Code
  | .normal => none
  | .ret => some .ret
  | .exit i => some (.exit i)

theorem roundF_parts {fuel : Nat} {l : Nat} {args : List Value} {v : Value} (h : roundF P tb call fuel l args σ = some (v, σ')) :
    ∃ ps t0 asg body st pe t1 σ1 ps1 t2 asg1 body1 pe1 e tx σ2 ps3 t3 asg3 body3 st3 pe3, σ.hp.get l = some (.loop ps t0 asg body st pe) ∧ args.length = ps.size ∧
      den P tb call fuel false asg (setPs ps.toList args t0) σ = some (.normal, t1, σ1) ∧ σ1.hp.get l = some (.loop ps1 t2 asg1 body1 .ready pe1) ∧
      den P tb call fuel false body t1 (σ1.with l (some (.loop ps1 t2 asg1 body1 .busy pe1))) = some (e, tx, σ2) ∧ σ2.hp.get l = some (.loop ps3 t3 asg3 body3 st3 pe3) ∧
      v = .bool (jumpOf e).isNone ∧ σ' = σ2.with l (some (.loop ps3 t3 asg3 body3 (if (jumpOf e).isNone then .ready else .done) (jumpOf e))) := by
  unfold roundF at h
  split at h
  case h_2 => cases h
  rename_i ps t0 asg body st pe hg
  split at h
  case h_2 => cases h
  rename_i hlen
  split at h
  case h_2 => cases h
  rename_i t1 σ1 hd1
  split at h
  case h_2 => cases h
  rename_i ps1 t2 asg1 body1 pe1 hg1
  split at h
  case h_4 => cases h
  all_goals
    rename_i tx σ2 hd2
    split at h
    case h_2 => cases h
    rename_i ps3 t3 asg3 body3 st3 pe3 hg2
    simp only [Option.some.injEq, Prod.mk.injEq] at h
    obtain ⟨rfl, rfl⟩ := h
    exact ⟨ps, t0, asg, body, st, pe, t1, σ1, ps1, t2, asg1, body1, pe1, _, tx, σ2, ps3, t3, asg3, body3, st3, pe3, hg, Nat.eq_of_beq_eq_true hlen, hd1, hg1, hd2, hg2, rfl, rfl⟩

theorem roundF_ok (hok : tb.Ok P) (hcall : CallOk P call) (fuel : Nat) {l : Nat} {args : List Value} {v : Value} (h : roundF P tb call fuel l args σ = some (v, σ')) :
    σ.next ≤ σ'.next ∧
    ∀ (r : Option Nat) (φ : Ph) (w : World) (f' : Fn) (args' : Array Value) (o : Oper) (a : Act) (K : Act → World → Prop) (Q : Exit → Act → World → Prop), FnR φ (.yield l) f' → RL φ args args'.toList → RH φ σ w → NoName φ σ σ' →
      (∀ φ' v' w', Post φ σ w φ' σ' w' → RV φ' v v' → K (a.put o.dst v') w') → o.uponIn (Fr r) 0 P a K Q ((enterS f' args').run P w) := by
  obtain ⟨ps, t0, asg, body, st, pe, t1, σ1, ps1, t2, asg1, body1, pe1, e, tx, σ2, ps3, t3, asg3, body3, st3, pe3, hg, hlen, hd1, hg1, hd2, hg2, rfl, rfl⟩ := roundF_parts h
  clear h
  obtain ⟨g1, g2⟩ := den_ok hok hcall fuel false asg _ _ _ _ _ hd1
  obtain ⟨k1, k2⟩ := den_ok hok hcall fuel false body _ _ _ _ _ hd2
  have k1' : σ1.next ≤ σ2.next := k1
  refine ⟨by show σ.next ≤ σ2.next; omega, ?_⟩
  intro r φ w f' args' o a K Q hf hl hH hN hK
  have hN' : NoName φ σ σ2 := hN
  cases hf with
  | yield hφ =>
    rename_i b
    obtain ⟨-, rec, c1, c2, c3, c4, c5, -, -⟩ := loop_rec hH hg hφ
    have hsz : args'.size = rec.params.size := by rw [c3, ← hlen, ← Array.length_toList, hl.length]
    have hy : (enterS (.yield b) args').run P w = _ := run_yield c1 hsz
    rw [hy, Oper.uponIn_round]
    refine ⟨fun hh => absurd hh Bool.false_ne_true, ?_⟩
    have hfold : RL φ (setPs ps.toList args t0) ((rec.params.zip args').foldl (fun (tmps : Array Value) (x : Tmp × Value) => tmps.setIfInBounds x.1 x.2) rec.tmps).toList := by
      rw [← Array.foldl_toList, Array.toList_zip, c3]
      exact setPs_rl _ _ _ _ _ hl c2
    refine roundIn_of_wpIn trivial ?_
    rw [c4, c5]
    have hroundfr : (Fr r).inRound b = Fr (some b) := rfl
    rw [hroundfr]
    refine g2 (some b) (by intro h; cases h) 0 [] φ w _ _ ⟨hfold, rfl⟩ (Marks.nil _ _ (Nat.zero_le _)) hH (hN'.left k1') ?_
    intro φ1 D1 a1 w1 hA1 _ p1
    have hφ1 := p1.le _ _ hφ
    obtain ⟨-, rec1, d1, d2, d3, d4, d5, d6, d7⟩ := loop_rec p1.rh hg1 hφ1
    have hbr := run_beginRound (P := P) d1 d6
    refine ⟨_, hbr, ?_⟩
    have p2 : Post φ1 σ1 w1 φ1 (σ1.with l (some (.loop ps1 t2 asg1 body1 .busy pe1))) (w1.putObj b (.loop { rec1 with state := .busy })) :=
      post_loop p1.rh hg1 hφ1 d1 _ (by rw [← d7])
    have hN1 : NoName φ1 σ1 σ2 := hN'.right p1
    have hN2 : NoName φ1 (σ1.with l (some (.loop ps1 t2 asg1 body1 .busy pe1))) σ2 := hN1
    refine k2 (some b) (by intro h; cases h) 0 D1 φ1 _ a1 _ ⟨hA1.tmps, hA1.defers⟩ ?_ p2.rh hN2 ?_
    · have := (Marks.nil (φ := φ1) (σ := σ1) (B := 0) (w := w1) (Nat.zero_le _))
      rename_i hM1
      exact hM1.post p2 p1.rh (by intro m h1 h2; exact absurd h1 (Nat.not_le.2 h2))
    intro φ2 D2 a2 w2 hA2 _ p3
    have hφ2 := p3.le _ _ hφ1
    obtain ⟨-, rec2, e1, e2, e3, e4, e5, e6, e7⟩ := loop_rec p3.rh hg2 hφ2
    have hend := run_endRound (P := P) (jumpOf e) e1
    have p4 : Post φ2 σ2 w2 φ2 (σ2.with l (some (.loop ps3 t3 asg3 body3 (if (jumpOf e).isNone then .ready else .done) (jumpOf e)))) (w2.putObj b (.loop { rec2 with state := if (jumpOf e).isNone then .ready else .done, pending := jumpOf e })) :=
      post_loop p3.rh hg2 hφ2 e1 _ rfl
    have pall := ((p1.trans p2 (by exact hN'.left k1')).trans p3 hN').trans p4 hN'
    have hfin := hK φ2 (.bool (jumpOf e).isNone) _ pall (.bool _)
    cases e with
    | normal => exact ⟨_, _, hend, hfin⟩
    | ret => exact ⟨_, _, hend, hfin⟩
    | exit i => exact ⟨_, _, hend, hfin⟩

/-! ## functions -/
def funcF (P : Program) (tb : Tb) (orc : Orc) (call : CallF) (fuel : Nat) (f : FuncId) (args : List Value) (σ : St) : Option (Value × St) :=
  match orc f with
  | some m => m args σ
  | none =>
    match tb.fn f with
    | some fn => match fn.body with
      | some c => fList (args ++ List.replicate (fn.ntmps - args.length) undef) fun t0 => match den P tb call fuel true c t0 σ with
        | some (.normal, t, σ') => match resF tb fn.results.toList t σ' with | some v => some (v, σ') | none => none
        | some (.ret, t, σ') => match resF tb fn.results.toList t σ' with | some v => some (v, σ') | none => none
        | _ => none
      | none => none
    | none => none

def callF (P : Program) (tb : Tb) (orc : Orc) (fuel : Nat) : Nat → CallF
  | 0, _, _, _ => none
  | n + 1, .func f, args, σ => funcF P tb orc (callF P tb orc fuel n) fuel f args σ
  | n + 1, .yield l, args, σ => roundF P tb (callF P tb orc fuel n) fuel l args σ
  | _ + 1, _, _, _ => none

/-- one function's contract -/
def FunOk (P : Program) (f : FuncId) (m : List Value → St → Option (Value × St)) : Prop :=
  ∀ args σ v σ', m args σ = some (v, σ') → σ.next ≤ σ'.next ∧
    ∀ (r : Option Nat) (φ : Ph) (w : World) (args' : Array Value) (o : Oper) (a : Act) (K : Act → World → Prop) (Q : Exit → Act → World → Prop), RL φ args args'.toList → RH φ σ w → NoName φ σ σ' →
      (∀ φ' v' w', Post φ σ w φ' σ' w' → RV φ' v v' → K (a.put o.dst v') w') → o.uponIn (Fr r) 0 P a K Q ((callFunc f args').run P w)

def OrcOk (P : Program) (orc : Orc) : Prop := ∀ f m, orc f = some m → FunOk P f m

def resOne (tb : Tb) (t : Tm) (σ : St) (r : ResultVar) : Option Value :=
  match r with | .tmp k => some (t.getD k undef) | .cell a ty => ldVar tb ty σ (t.getD a undef)

def oneOr (vs : List Value) : Value := match vs with | [v] => v | vs => .tuple vs.toArray

theorem resF_mapM {rs : List ResultVar} {vs : List Value} (h : rs.mapM (resOne tb t σ) = some vs) :
    resF tb rs t σ = some (oneOr vs) := by
  have hsame : (fun r => match r with | .tmp k => some (t.getD k undef) | .cell a ty => ldVar tb ty σ (t.getD a undef) : ResultVar → Option Value) = resOne tb t σ := by
    funext r; cases r <;> rfl
  unfold resF
  rw [hsame, h]
  match vs with
  | [] => rfl
  | [v] => rfl
  | _ :: _ :: _ => rfl

def resSem (tmps : Array Value) (r : ResultVar) : Sem Value :=
  match r with
  | .tmp t => pure (tmps.getD t undef)
  | .cell a' ty => do loadVar ty (← asAddr (tmps.getD a' undef))

theorem results_eq (fn : Func) (tmps : Array Value) : results fn tmps = (do let vs ← fn.results.mapM (resSem tmps); pure (if h : vs.size = 1 then vs[0] else .tuple vs)) := by
  unfold results
  congr 2

theorem run_res {D : List Deferred} (hok : tb.Ok P) (hH : RH φ σ w) {a : Act} (hA : RA φ D t a) : ∀ (rs : List ResultVar) (vs : List Value),
    rs.mapM (resOne tb t σ) = some vs → ∃ vs', (rs.mapM (resSem a.tmps)).run P w = .ok vs' w ∧ RL φ vs vs' := by
  intro rs
  have hg : ∀ k, RV φ (t.getD k undef) (a.tmps.getD k undef) := fun k => by
    have := hA.tmps.getD (rv_undef φ) k
    simpa [Array.getD_eq_getD_getElem?] using this
  induction rs with
  | nil => intro vs h; simp at h; subst h; exact ⟨[], by simp, .nil⟩
  | cons r rs ih =>
    intro vs h
    simp only [List.mapM_cons, Option.bind_eq_bind, Option.pure_def] at h
    cases hr : resOne tb t σ r with
    | none => rw [hr] at h; simp at h
    | some v =>
      rw [hr] at h
      cases hl : rs.mapM (resOne tb t σ) with
      | none => rw [hl] at h; simp at h
      | some us =>
        rw [hl] at h; simp at h; subst h
        obtain ⟨us', g1, g2⟩ := ih us hl
        have one : ∃ v', (resSem a.tmps r).run P w = .ok v' w ∧ RV φ v v' := by
          cases r with
          | tmp k => simp only [resOne, Option.some.injEq] at hr; subst hr; exact ⟨_, rfl, hg k⟩
          | cell k ty =>
            simp only [resOne] at hr
            have hk := hg k
            obtain ⟨v', h1, h2⟩ := sim_ldVar (w := w) hok hH hr hk
            refine ⟨v', ?_, h2⟩
            unfold resSem
            dsimp only
            generalize a.tmps.getD k undef = p at hk h1 ⊢
            unfold ldVar at hr
            split at hr
            · rename_i n o hp
              rw [hp] at hk
              cases hk with
              | ptr hφ =>
                simp only [Instr.loadAt, Instr.sureAddr, Sem.run_bind, Sem.run_pure, Result.andThen_ok] at h1
                simp only [asAddr, Sem.run_bind, Sem.run_pure, Result.andThen_ok]
                exact h1
            · cases hr
        obtain ⟨v', h1, h2⟩ := one
        refine ⟨v' :: us', ?_, .cons h2 g2⟩
        simp only [List.mapM_cons, Sem.run_bind, h1, Result.andThen_ok, g1, Sem.run_pure]

theorem sim_res {D : List Deferred} (hok : tb.Ok P) (hH : RH φ σ w) {a : Act} (hA : RA φ D t a) {fn : Func} {v : Value} (h : resF tb fn.results.toList t σ = some v) :
    ∃ v', (results fn a.tmps).run P w = .ok v' w ∧ RV φ v v' := by
  unfold resF at h
  have hsame : (fun r => match r with | .tmp k => some (t.getD k undef) | .cell a ty => ldVar tb ty σ (t.getD a undef) : ResultVar → Option Value) = resOne tb t σ := by
    funext r; cases r <;> rfl
  rw [hsame] at h
  cases hm : fn.results.toList.mapM (resOne tb t σ) with
  | none => rw [hm] at h; cases h
  | some vs =>
    rw [hm] at h
    obtain ⟨vs', g1, g2⟩ := run_res hok hH hA _ _ hm
    have hrun : (results fn a.tmps).run P w = .ok (if h : vs'.toArray.size = 1 then vs'.toArray[0] else .tuple vs'.toArray) w := by
      rw [results_eq]
      simp only [Array.mapM_eq_mapM_toList, Sem.run_bind, Sem.run_map]
      rw [g1]
      simp only [Result.andThen_ok, Sem.run_pure]
    rw [hrun]
    have hl := g2.length
    split at h
    · cases h
      rename_i u hv
      cases hv
      cases g2 with
      | cons k1 k2 =>
        cases k2
        exact ⟨_, rfl, k1⟩
    · rename_i us hne hv
      cases h
      cases hv
      refine ⟨.tuple vs'.toArray, ?_, .tuple g2⟩
      rw [dif_neg]
      intro hs
      simp only [List.size_toArray] at hs
      rw [hs] at hl
      obtain ⟨u, rfl⟩ := List.length_eq_one_iff.1 hl
      exact hne u rfl
    · rename_i hv; cases hv


/-- the marks are taken over, one after the other -/
theorem leaves_marks (hok : tb.Ok P) {fn : Func} {a : Act} {φ₀ φ' : Ph} {σ₀ : St} {w₀ : World} {v : Value} (hr : resF tb fn.results.toList t σ' = some v) (hA : RL φ' t a.tmps.toList)
    {R : Ending → World → Prop} (hR : ∀ v' w', Post φ₀ σ₀ w₀ φ' σ' w' → RV φ' v v' → R (.returned v') w') :
    ∀ (rs : List Nat) (w : World), rs.Nodup → (∀ r ∈ rs, w₀.heap.size ≤ r ∧ w.heap[r]? = some (.deferred (some [])) ∧ ∀ n d, φ' n = some (r, d) → σ'.hp.get n = none) → Post φ₀ σ₀ w₀ φ' σ' w →
      LeavesInM (Fr none) 0 P fn a.tmps R (rs.map markOf) .returning w
  | [], w, _, _, p => by
    obtain ⟨v', h1, h2⟩ := sim_res (D := a.defers) hok p.rh ⟨hA, rfl⟩ hr
    exact ⟨v', h1, hR _ _ p h2⟩
  | r :: rs, w, hnd, hall, p => by
    obtain ⟨k1, k2, k3⟩ := hall r (by simp)
    refine ⟨by simp, .inl ⟨r, _, rfl, run_takeDeferred k2, ?_⟩⟩
    have hnd' := List.nodup_cons.1 hnd
    refine leaves_marks hok hr hA hR rs _ hnd'.2 ?_ (p.shut k1 k2 k3)
    intro r' hr'
    obtain ⟨j1, j2, j3⟩ := hall r' (by simp [hr'])
    refine ⟨j1, ?_, j3⟩
    rw [World.putObj_heap_other (by intro e; subst e; exact hnd'.1 hr')]
    exact j2

theorem funcF_ok (hok : tb.Ok P) {orc : Orc} (horc : OrcOk P orc) (hcall : CallOk P call) (fuel : Nat) (f : FuncId) : FunOk P f (funcF P tb orc call fuel f) := by
  intro args σ v σ' h
  simp only [funcF, fList_eq] at h
  split at h
  · rename_i m hm
    exact horc f m hm args σ v σ' h
  · split at h
    · rename_i fn hfn
      split at h
      · rename_i c hc
        obtain ⟨hf, hnm⟩ := hok.fn _ _ hfn
        have hden := den_ok hok hcall fuel true c
        have hb : fn.body.isNone = false := by simp [hc]
        have fin : ∀ (e : Ex) (t1 : Tm), (e = .normal ∨ e = .ret) → den P tb call fuel true c (args ++ List.replicate (fn.ntmps - args.length) undef) σ = some (e, t1, σ') →
            resF tb fn.results.toList t1 σ' = some v → σ.next ≤ σ'.next ∧
            ∀ (r : Option Nat) (φ : Ph) (w : World) (args' : Array Value) (o : Oper) (a : Act) (K : Act → World → Prop) (Q : Exit → Act → World → Prop), RL φ args args'.toList → RH φ σ w → NoName φ σ σ' →
              (∀ φ' v' w', Post φ σ w φ' σ' w' → RV φ' v v' → K (a.put o.dst v') w') → o.uponIn (Fr r) 0 P a K Q ((callFunc f args').run P w) := by
          intro e t1 he hx hr
          obtain ⟨g1, g2⟩ := hden _ _ _ _ _ hx
          refine ⟨g1, fun ro φ w args' o a K Q hl hH hN hK => ?_⟩
          have hrun : (callFunc f args').run P w = .ok (.enter f args') w := by
            simp only [callFunc, Sem.run_bind, run_program, Result.andThen_ok, hf, hnm, hb, Bool.false_eq_true, if_false, Sem.run_pure]
          rw [hrun, Oper.uponIn_enter]
          refine ⟨fun hh => absurd hh Bool.false_ne_true, ?_⟩
          have main : CallsIn (Fr none) (0 - 1) P f args' w (fun e w' => ∃ φ' v', e = .returned v' ∧ Post φ σ w φ' σ' w' ∧ RV φ' v v') := by
            refine callsIn_of_wp_marks hf hc trivial ?_
            have hlen := hl.length
            have hA : RA φ [] (args ++ List.replicate (fn.ntmps - args.length) undef) { tmps := args' ++ Array.replicate (fn.ntmps - args'.size) undef, defers := [] } := by
              refine ⟨?_, rfl⟩
              have e1 : (args' ++ Array.replicate (fn.ntmps - args'.size) undef).toList = args'.toList ++ List.replicate (fn.ntmps - args.length) undef := by
                rw [hlen]; simp
              rw [e1]
              exact hl.append (RL.replicate (rv_undef φ) _)
            refine g2 none (fun _ => rfl) w.heap.size [] φ w _ _ hA (Marks.nil _ _ (Nat.le_refl _)) hH hN ?_
            intro φ' D' a' w' hA' hM p
            obtain ⟨-, rs, hD, hnd, hall⟩ := hM
            have hleave := leaves_marks (a := a') hok hr hA'.tmps (R := fun e w' => ∃ φ' v', e = .returned v' ∧ Post φ σ w φ' σ' w' ∧ RV φ' v v') (fun v' w' p' hv => ⟨φ', v', rfl, p', hv⟩) rs w' hnd hall p
            rw [← hD, ← hA'.defers] at hleave
            rcases he with rfl | rfl
            · exact hleave
            · exact hleave
          refine CallsIn.mono (F := Fr none) main ?_
          rintro e' w'' ⟨φ', v', rfl, p, hv⟩
          exact hK φ' v' w'' p hv
        split at h
        · rename_i t1 σ1 hx
          split at h
          · rename_i u hu
            simp only [Option.some.injEq, Prod.mk.injEq] at h
            obtain ⟨rfl, rfl⟩ := h
            exact fin .normal t1 (.inl rfl) hx hu
          · cases h
        · rename_i t1 σ1 hx
          split at h
          · rename_i u hu
            simp only [Option.some.injEq, Prod.mk.injEq] at h
            obtain ⟨rfl, rfl⟩ := h
            exact fin .ret t1 (.inr rfl) hx hu
          · cases h
        · cases h
      · cases h
    · cases h

theorem callF_ok (hok : tb.Ok P) {orc : Orc} (horc : OrcOk P orc) (fuel : Nat) : ∀ n, CallOk P (callF P tb orc fuel n) := by
  intro n
  induction n with
  | zero => intro f args σ v σ' h; cases f <;> cases h
  | succ n ih =>
    intro f args σ v σ' h
    cases f with
    | func f =>
      simp only [callF] at h
      obtain ⟨g1, g2⟩ := funcF_ok hok horc ih fuel f args σ v σ' h
      refine ⟨g1, fun r φ w f' args' o a K Q hf hl hH hN hK => ?_⟩
      cases hf
      exact g2 r φ w args' o a K Q hl hH hN hK
    | yield l =>
      simp only [callF] at h
      exact roundF_ok hok ih fuel h
    | _ => simp [callF] at h

end Go.Det
