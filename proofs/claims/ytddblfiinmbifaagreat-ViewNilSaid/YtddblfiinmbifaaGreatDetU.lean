/- Det, part U: code and calls. -/
import Derived.Test.YtddblfiinmbifaaGreatDetT2
namespace Go.Det

variable {φ ψ : Ph} {P : Program} {w w' w₀ : World} {σ σ' : St} {tb : Tb} {call : CallF} {ops : List Oper} {t : Tm}

inductive Ex where
  | normal
  | exit (id : Nat)
  | ret

abbrev Step := Tm → St → Option (Ex × Tm × St)

def iter (f : Step) : Nat → Step
  | 0, _, _ => none
  | n + 1, t, σ => match f t σ with
    | some (.normal, t', σ') => iter f n t' σ'
    | r => r

/-- what the record of a range over a function says when the function that is ranged over has returned -/
def loopEnd (t : Tm) (σ : St) (n : Nat) : Option (Ex × Tm × St) :=
  match σ.hp.get n with
  | some (.loop ps t0 asg body .ready none) => some (.normal, t, σ.with n (some (.loop ps t0 asg body .exhausted none)))
  | some (.loop ps t0 asg body .done (some .ret)) => some (.ret, t, σ.with n (some (.loop ps t0 asg body .exhausted (some .ret))))
  | some (.loop ps t0 asg body .done (some (.exit i))) => some (.exit i, t, σ.with n (some (.loop ps t0 asg body .exhausted (some (.exit i)))))
  | _ => none

/-- the function that is ranged over has a body -/
def bodied (tb : Tb) (f : FuncId) : Bool :=
  match tb.fn f with
  | some fn => fn.body.isSome
  | none => false

def rangeF (tb : Tb) (call : CallF) (g : Option Value) (ps : Array Tmp) (asg body : Code) : Step := fun t σ =>
  match g with
  | some (.func (.func gi) fi ca) => match bodied tb gi with
    | false => none
    | true => match call (.func gi) (fi.toList ++ .func (.yield σ.next) #[] #[] :: ca.toList) (σ.new (.loop ps t asg body .ready none)) with
    | some (_, σ') => loopEnd t σ' σ.next
    | none => none
  | _ => none

def den (P : Program) (tb : Tb) (call : CallF) (fuel : Nat) (top : Bool) : Code → Step
  | .skip, t, σ => some (.normal, t, σ)
  | .region _ ops false, t, σ => match runOps P tb call ops.toList ops.toList t σ with
    | some (t', σ') => some (.normal, t', σ')
    | none => none
  | .region _ ops true, t, σ => if staB tb ops.toList then
      match runT P tb call ops.toList ops.toList t σ with
      | some tr => if dynB P tb call ops.toList tr (infoOf tb ops.toList) then
          match tr[ops.toList.length]? with
          | some (t', σ', _) => some (.normal, t', σ')
          | none => none
        else none
      | none => none
    else none
  | .seq a b, t, σ => match den P tb call fuel top a t σ with
    | some (.normal, t', σ') => den P tb call fuel top b t' σ'
    | r => r
  | .cond c a b, t, σ => match opd t c with
    | some (.bool true) => den P tb call fuel top a t σ
    | some (.bool false) => den P tb call fuel top b t σ
    | _ => none
  | .block id b, t, σ => match den P tb call fuel top b t σ with
    | some (.exit i, t', σ') => if i = id then some (.normal, t', σ') else some (.exit i, t', σ')
    | r => r
  | .loop b, t, σ => iter (den P tb call fuel top b) fuel t σ
  | .exit id, t, σ => some (.exit id, t, σ)
  | .ret, t, σ => some (.ret, t, σ)
  | .rangeFunc g ps asg body, t, σ => match top with
    | true => rangeF tb call (opd t g) ps asg body t σ
    | false => none
  | _, _, _ => none

def exOf : Ex → Exit
  | .normal => .normal
  | .exit i => .exit i
  | .ret => .ret

def StepOk (P : Program) (top : Bool) (c : Code) (f : Step) : Prop :=
  ∀ t σ e t' σ', f t σ = some (e, t', σ') → σ.next ≤ σ'.next ∧
    ∀ (r : Option Nat) (_ : top = true → r = none) (B : Nat) (D : List Deferred) (φ : Ph) (w : World) (a : Act) (Q : Exit → Act → World → Prop), RA φ D t a → Marks B φ σ w D → RH φ σ w → NoName φ σ σ' →
      (∀ φ' D' a' w', RA φ' D' t' a' → Marks B φ' σ' w' D' → Post φ σ w φ' σ' w' → Q (exOf e) a' w') → c.wpIn (Fr r) 0 P Q a w

theorem opd_bool {D : List Deferred} {a : Act} (hA : RA φ D t a) {c : Operand} {b : Bool} (h : opd t c = some (.bool b)) : a.eval c = .bool b := by
  have := opd_rv hA.tmps c _ h
  generalize a.eval c = v at this
  cases this; rfl

theorem room0 (r : Option Nat) (n : Nat) : (Fr r).room n := fun d hd => by cases hd

theorem iter_ok {top : Bool} {c : Code} {f : Step} (hf : StepOk P top c f) : ∀ (n : Nat) (t : Tm) (σ : St) (e : Ex) (t' : Tm) (σ' : St), iter f n t σ = some (e, t', σ') → σ.next ≤ σ'.next ∧
    ∀ (r : Option Nat) (_ : top = true → r = none) (B : Nat) (D : List Deferred) (φ : Ph) (w : World) (a : Act) (Q : Exit → Act → World → Prop), RA φ D t a → Marks B φ σ w D → RH φ σ w → NoName φ σ σ' →
      (∀ φ' D' a' w', RA φ' D' t' a' → Marks B φ' σ' w' D' → Post φ σ w φ' σ' w' → Q (exOf e) a' w') →
      ∀ (b : Frame) (k : List Item) (cs : List Frame), b.roundOf = r →
        ∃ e a' w', Q e a' w' ∧ ArrivesIn (Machine.fenced P (Fr r)) P (lone (b.atR a (.code c :: .inLoop c :: k)) cs w) b k cs e a' w' := by
  intro n
  induction n with
  | zero => intro t σ e t' σ' h; cases h
  | succ n ih =>
    intro t σ e t' σ' h
    simp only [iter] at h
    have stop : ∀ (e : Ex), f t σ = some (e, t', σ') → e ≠ .normal → σ.next ≤ σ'.next ∧ _ := fun e hx hne => by
      obtain ⟨g1, g2⟩ := hf _ _ _ _ _ hx
      refine (⟨g1, ?_⟩ : σ.next ≤ σ'.next ∧ ∀ (r : Option Nat) (_ : top = true → r = none) (B : Nat) (D : List Deferred) (φ : Ph) (w : World) (a : Act) (Q : Exit → Act → World → Prop), RA φ D t a → Marks B φ σ w D → RH φ σ w → NoName φ σ σ' →
        (∀ φ' D' a' w', RA φ' D' t' a' → Marks B φ' σ' w' D' → Post φ σ w φ' σ' w' → Q (exOf e) a' w') →
        ∀ (b : Frame) (k : List Item) (cs : List Frame), b.roundOf = r →
          ∃ e a' w', Q e a' w' ∧ ArrivesIn (Machine.fenced P (Fr r)) P (lone (b.atR a (.code c :: .inLoop c :: k)) cs w) b k cs e a' w')
      intro r ht B D φ w a Q hA hM hH hN hQ b k cs hro
      obtain ⟨e1, a1, w1, hq, harr⟩ := g2 r ht B D φ w a (fun x a' w' => x = exOf e ∧ Q (exOf e) a' w') hA hM hH hN (fun φ' D' a' w' h1 h2 h3 => ⟨rfl, hQ φ' D' a' w' h1 h2 h3⟩) b (.inLoop c :: k) cs hro trivial (room0 _ _)
      obtain ⟨rfl, hq⟩ := hq
      refine ⟨_, a1, w1, hq, .pass (x := .inLoop c) rfl (fun _ _ => .inl ?_) harr⟩
      cases e <;> simp [exOf] at hne ⊢
    split at h
    · rename_i t1 σ1 hx
      obtain ⟨g1, g2⟩ := hf _ _ _ _ _ hx
      obtain ⟨k1, k2⟩ := ih _ _ _ _ _ h
      refine ⟨Nat.le_trans g1 k1, ?_⟩
      intro r ht B D φ w a Q hA hM hH hN hQ b k cs hro
      obtain ⟨e1, a1, w1, hq, harr⟩ := g2 r ht B D φ w a (fun x a' w' => x = .normal ∧ ∃ φ1 D1, RA φ1 D1 t1 a' ∧ Marks B φ1 σ1 w' D1 ∧ Post φ σ w φ1 σ1 w') hA hM hH (hN.left k1)
        (fun φ' D' a' w' h1 h2 h3 => ⟨rfl, φ', D', h1, h2, h3⟩) b (.inLoop c :: k) cs hro trivial (room0 _ _)
      obtain ⟨rfl, φ1, D1, hA1, hM1, p1⟩ := hq
      obtain ⟨e2, a2, w2, hq2, harr2⟩ := k2 r ht B D1 φ1 w1 a1 Q hA1 hM1 p1.rh (hN.right p1) (fun φ' D' a' w' h1 h2 h3 => hQ φ' D' a' w' h1 h2 (p1.trans h3 hN)) b k cs hro
      exact ⟨e2, a2, w2, hq2, .of_steps (StepsIn.trans harr (.one (fenced_calm (F := Fr r) (n := 0) trivial (room0 _ _) rfl) stepR_inLoop)) harr2⟩
    · rename_i r hr
      cases hx : f t σ with
      | none => rw [hx] at h; cases h
      | some y =>
        obtain ⟨e1, t1, σ1⟩ := y
        rw [hx] at h
        cases e1 with
        | normal => exact absurd hx (hr _ _)
        | exit i => cases h; exact stop _ hx (by simp)
        | ret => cases h; exact stop _ hx (by simp)

theorem iter_loop {top : Bool} {c : Code} {f : Step} (hf : StepOk P top c f) (n : Nat) : StepOk P top (.loop c) (iter f n) := by
  intro t σ e t' σ' h
  obtain ⟨g1, g2⟩ := iter_ok hf n _ _ _ _ _ h
  refine ⟨g1, fun r ht B D φ w a Q hA hM hH hN hQ b k cs hro _ _ => ?_⟩
  obtain ⟨e1, a1, w1, hq, harr⟩ := g2 r ht B D φ w a Q hA hM hH hN hQ b k cs hro
  exact ⟨e1, a1, w1, hq, .of_steps (.one (fenced_calm (F := Fr r) (n := 0) trivial (room0 _ _) rfl) stepR_loop) harr⟩

theorem loopEnd_st {n : Nat} {e : Ex} {t' : Tm} (h : loopEnd t σ n = some (e, t', σ')) :
    t' = t ∧ ∃ ps t0 asg body st pe, σ.hp.get n = some (.loop ps t0 asg body st pe) ∧ st ≠ .busy ∧ σ' = σ.with n (some (.loop ps t0 asg body .exhausted pe)) ∧
      ((pe = none ∧ e = .normal) ∨ (pe = some .ret ∧ e = .ret) ∨ ∃ i, pe = some (.exit i) ∧ e = .exit i) := by
  unfold loopEnd at h
  split at h <;> first
    | (cases h; done)
    | (rename_i hg
       simp only [Option.some.injEq, Prod.mk.injEq] at h
       obtain ⟨rfl, rfl, rfl⟩ := h
       refine ⟨rfl, _, _, _, _, _, _, hg, by decide, rfl, ?_⟩
       first | exact .inl ⟨rfl, rfl⟩ | exact .inr (.inl ⟨rfl, rfl⟩) | exact .inr (.inr ⟨_, rfl, rfl⟩))

theorem rangeF_ok (hok : tb.Ok P) (hcall : CallOk P call) (g : Operand) (ps : Array Tmp) (asg body : Code) : StepOk P true (.rangeFunc g ps asg body) (fun t σ => rangeF tb call (opd t g) ps asg body t σ) := by
  intro t σ e t' σ' h
  simp only [rangeF] at h
  split at h
  case h_2 => cases h
  rename_i gi fi ca hg
  split at h
  · cases h
  rename_i hbod
  split at h
  case h_2 => cases h
  rename_i v σ1 hc
  obtain ⟨g1, g2⟩ := hcall _ _ _ _ _ hc
  obtain ⟨rfl, ps1, t1, asg1, body1, st1, pe1, hget, hst, rfl, hpe⟩ := loopEnd_st h
  have g1' : σ.next + 1 ≤ σ1.next := g1
  refine ⟨by show σ.next ≤ σ1.next; omega, ?_⟩
  intro r hr B D φ w a Q hA hM hH hN hQ
  obtain rfl := hr rfl
  refine wpIn_rangeFunc ?_
  intro fn _
  have hNn : φ σ.next = none := hN _ (Nat.le_refl _) (by show σ.next < σ1.next; omega)
  -- the world with the record
  obtain ⟨rec, hrec⟩ : ∃ rec : Loop, rec = { state := .ready, pending := none, fn, tmps := a.tmps, params := ps, assign := asg, body, defers := w.heap.size } := ⟨_, rfl⟩
  obtain ⟨W0, hW0⟩ : ∃ W0, W0 = w.alloc (.deferred (some [])) := ⟨_, rfl⟩
  obtain ⟨W1, hW1⟩ : ∃ W1, W1 = W0.alloc (.loop rec) := ⟨_, rfl⟩
  have hs0 : W0.heap.size = w.heap.size + 1 := by rw [hW0]; simp
  have p0 : Post φ σ w φ σ W0 := by rw [hW0]; exact post_push hH _
  have p1 : Post φ σ W0 (ext φ σ.next (W0.heap.size, (0, 0))) (σ.new (.loop ps t' asg body .ready none)) W1 := by
    subst hW1
    refine post_new p0.rh hNn (by simp) (push_old W0 _) rfl rfl rfl ?_
    refine ⟨rfl, rec, by exact push_new W0 _, ?_, by rw [hrec], by rw [hrec], by rw [hrec], by rw [hrec], by rw [hrec]⟩
    rw [hrec]
    exact hA.tmps.mono (ext_le hNn)
  have hL1 : W1.heap[W0.heap.size]? = some (.loop rec) := by rw [hW1]; exact push_new W0 _
  have hMk0 : W1.heap[w.heap.size]? = some (.deferred (some [])) := by
    rw [hW1, show (W0.alloc (.loop rec)).heap[w.heap.size]? = W0.heap[w.heap.size]? from push_old W0 _ _ (by omega), hW0]
    exact push_new w _
  generalize hφ1 : ext φ σ.next (W0.heap.size, (0, 0)) = φ1 at p1
  have hφL : φ1 σ.next = some (W0.heap.size, (0, 0)) := by rw [← hφ1]; exact ext_self _ _
  have hfv := opd_rv hA.tmps g _ hg
  have hN1 : NoName φ1 (σ.new (.loop ps t' asg body .ready none)) σ1 := by
    intro m h1 h2
    rw [← hφ1, ext_ne _ (by simp only [St.new] at h1; omega)]
    exact hN m (by simp only [St.new] at h1; omega) h2
  have p01 : Post φ σ w φ1 (σ.new (.loop ps t' asg body .ready none)) W1 := p0.trans p1 (by
    intro m h1 h2
    exact hN m h1 (by simp only [St.new] at h2; show m < σ1.next; omega))
  have hM1 : Marks B φ1 (σ.new (.loop ps t' asg body .ready none)) W1 (markOf w.heap.size :: D) := by
    obtain ⟨hB, rs, h1, h2, h3⟩ := hM.post p01 hH (by intro m h1 h2; exact hN m h1 (by simp only [St.new] at h2; show m < σ1.next; omega))
    refine ⟨hB, w.heap.size :: rs, by rw [h1]; rfl, List.nodup_cons.2 ⟨?_, h2⟩, ?_⟩
    · intro hin
      obtain ⟨-, rs0, k1, -, k3⟩ := hM
      have : rs = rs0 := by
        have := h1.symm.trans k1
        exact (List.map_inj_right (f := markOf) (by intro x y hxy; simp only [markOf, Deferred.mk.injEq, Target.collected.injEq, and_true] at hxy; exact hxy)).1 this
      subst this
      have := (Array.getElem?_eq_some_iff.1 (k3 _ hin).2.1).1
      omega
    · intro r hr
      rcases List.mem_cons.1 hr with rfl | hr
      · refine ⟨hM.le, hMk0, fun n d hn => ?_⟩
        rw [← hφ1] at hn
        by_cases e : n = σ.next
        · subst e; rw [ext_self] at hn; simp only [Option.some.injEq, Prod.mk.injEq] at hn; omega
        · rw [ext_ne _ e] at hn; have := hH.lt _ _ _ hn; omega
      · exact h3 r hr
  generalize hev : a.eval g = gv at hfv
  cases hfv with
  | func _ hy r1 r2 =>
    rename_i fi' ca'
    have hargs : RL φ1 (fi.toList ++ .func (.yield σ.next) #[] #[] :: ca.toList) ((fi' ++ #[Value.func (.yield W0.heap.size) #[] #[]]) ++ ca').toList := by
      have e : ((fi' ++ #[Value.func (.yield W0.heap.size) #[] #[]]) ++ ca').toList = fi'.toList ++ .func (.yield W0.heap.size) #[] #[] :: ca'.toList := by simp
      rw [e]
      exact (r1.mono p01.le).append (.cons (.yield hφL) (r2.mono p01.le))
    have hrun : (callFunc gi ((fi' ++ #[Value.func (.yield W0.heap.size) #[] #[]]) ++ ca')).run P W1 = .ok (.enter gi ((fi' ++ #[Value.func (.yield W0.heap.size) #[] #[]]) ++ ca')) W1 := by
      unfold bodied at hbod
      split at hbod
      · rename_i fn' hfn
        obtain ⟨hf, hnm⟩ := hok.fn _ _ hfn
        have hb : fn'.body.isNone = false := by cases hx : fn'.body <;> simp [hx] at hbod ⊢
        simp only [callFunc, Sem.run_bind, run_program, Result.andThen_ok, hf, hnm, hb, Bool.false_eq_true, if_false, Sem.run_pure]
      · cases hbod
    refine ⟨W0.heap.size, [markOf w.heap.size], W1, { target := .fn (.func gi) ca', args := fi' ++ #[Value.func (.yield W0.heap.size) #[] #[]] }, W1, gi, (fi' ++ #[Value.func (.yield W0.heap.size) #[] #[]]) ++ ca', W1, ?_, ?_, fun _ _ => trivial, ?_, ?_, ?_⟩
    · rw [hs0, hW1, hrec, hW0]; exact run_enterLoop_outer _ _ _ _ _
    · simp only [resolve, Deferred.ofValue, hev]
      simp [Act.eval, Sem.run_pure]
    · simp only [invoke]; exact hrun
    · intro h; cases h
    · have key := g2 none φ1 W1 _ ((fi' ++ #[Value.func (.yield W0.heap.size) #[] #[]]) ++ ca') { dst := none, op := .move g, type := 0, pos := default, after := #[], guard := none } a
        (fun _ w2 => ∃ φ2, Post φ1 (σ.new (.loop ps t' asg body .ready none)) W1 φ2 σ1 w2) (fun _ _ _ => False) (.func gi) hargs p1.rh hN1 (fun φ' v' w' p _ => ⟨φ', p⟩)
      have hent : (enterS (.func gi) ((fi' ++ #[Value.func (.yield W0.heap.size) #[] #[]]) ++ ca')).run P W1 = .ok (.enter gi ((fi' ++ #[Value.func (.yield W0.heap.size) #[] #[]]) ++ ca')) W1 := hrun
      rw [hent, Oper.uponIn_enter] at key
      refine CallsIn.mono key.2 ?_
      intro e2 w2 he
      cases e2 with
      | panicked chain => exact he.elim
      | outgrown => obtain ⟨_, _, he⟩ := he; exact he.elim
      | returned v2 =>
        obtain ⟨φ2, p2⟩ := he
        have hL2 : φ2 σ.next = some (W0.heap.size, (0, 0)) := p2.le _ _ hφL
        obtain ⟨-, rr, k1, k2, k3, k4, k5, k6, k7⟩ := loop_rec p2.rh hget hL2
        have hend := run_endLoop (P := P) k1 (by rw [k6]; exact hst)
        have p3 : Post φ2 σ1 w2 φ2 (σ1.with σ.next (some (.loop ps1 t1 asg1 body1 .exhausted pe1))) (w2.putObj W0.heap.size (.loop { rr with state := .exhausted })) :=
          post_loop p2.rh hget hL2 k1 _ (by rw [← k7])
        have pall : Post φ σ w φ2 (σ1.with σ.next (some (.loop ps1 t1 asg1 body1 .exhausted pe1))) (w2.putObj W0.heap.size (.loop { rr with state := .exhausted })) :=
          (p01.trans p2 hN).trans p3 hN
        have hM2 := (hM1.post p2 p1.rh hN1).post p3 p2.rh (by intro m h1 h2; exact absurd h1 (Nat.not_le.2 h2))
        have hA2 : RA φ2 (markOf w.heap.size :: D) t' { a with defers := [markOf w.heap.size] ++ a.defers } := ⟨hA.tmps.mono pall.le, by rw [hA.defers]; rfl⟩
        have hQ' := hQ φ2 _ _ _ hA2 hM2 pall
        refine ⟨_, _, hend, ?_⟩
        rw [k7] at hQ' ⊢
        rcases hpe with ⟨rfl, rfl⟩ | ⟨rfl, rfl⟩ | ⟨i, rfl, rfl⟩
        · exact hQ'
        · exact wpIn_ret hQ'
        · exact wpIn_exit hQ'

end Go.Det
