/- Det, part Z4: from a run that answers true to a function's contract. -/
import Derived.Test.YtddblfiinmbifaaGreatDetZ3
import GoSem.ClaimChange
namespace Go.Det

variable {P : Program} {tb : Tb}

/-- what lay there lies as it lay -/
structure Kept (w w' : World) : Prop where
  os : w'.os = w.os
  output : w'.output = w.output
  same : ∀ i, i < w.heap.size → w'.heap[i]? = w.heap[i]?

theorem Kept.but {w w' : World} (h : Kept w w') (may : MemPlace → Prop) : w.keptBut w' may := by
  refine ⟨h.os, h.output, fun i hi => ?_⟩
  rw [h.same i hi]
  cases hx : w.heap[i]? with
  | none => rfl
  | some o => cases o <;> first | exact ⟨rfl, rfl, rfl, fun _ _ => rfl⟩ | exact .inr ⟨rfl, rfl⟩ | rfl

theorem calls_true (hok : tb.Ok P) {orc : Orc} (horc : OrcOk P orc) {fuel m : Nat} {f : FuncId} {args : List Value} {args' : Array Value} (hb : bodied tb f = true)
    (h : isTrueK P tb orc fuel m f args = true) (hl : RL (fun _ => none) args args'.toList) (w : World) :
    Calls P f args' w fun e w' => e = .returned (.bool true) ∧ Kept w w' := by
  obtain ⟨σ', hc⟩ := isTrueK_ok h
  obtain ⟨-, g2⟩ := callF_ok hok horc fuel m _ _ _ _ _ hc
  have hH : RH (fun _ => none) ⟨.nil, 0⟩ w := ⟨fun _ _ _ _ _ h => (by cases h), fun _ _ _ _ _ _ _ _ _ h => (by cases h), fun _ _ => rfl, fun _ _ _ h => (by cases h)⟩
  have key := g2 none (fun _ => none) w (.func f) args' { dst := some 0, op := .move (.tmp 0), type := 0, pos := default, after := #[], guard := none } { tmps := #[undef], defers := [] }
    (fun a w' => a.tmps[0]? = some (.bool true) ∧ Kept w w') (fun _ _ _ => False) (.func f) hl hH (fun _ _ _ => rfl) (by
      intro φ' v' w' p hv
      cases hv
      refine ⟨rfl, p.os, p.output, fun i hi => p.conc i hi fun _ _ h => (by cases h)⟩)
  have hrun : (enterS (.func f) args').run P w = .ok (.enter f args') w := by
    unfold bodied at hb
    split at hb
    · rename_i fn' hfn
      obtain ⟨hf, hnm⟩ := hok.fn _ _ hfn
      have hb' : fn'.body.isNone = false := by cases hx : fn'.body <;> simp [hx] at hb ⊢
      simp only [enterS, callFunc, Sem.run_bind, run_program, Result.andThen_ok, hf, hnm, hb', Bool.false_eq_true, if_false, Sem.run_pure]
    · cases hb
  rw [hrun, Oper.uponIn_enter] at key
  have key2 : CallsIn Fence.wide (0 - 1) P f args' w _ := key.2
  refine (callsIn_wide.1 key2).mono ?_
  intro e w' he
  cases e with
  | returned v =>
    obtain ⟨h1, h2⟩ := he
    simp [Act.put] at h1
    exact ⟨by rw [h1], h2⟩
  | panicked chain => exact he.elim
  | outgrown => obtain ⟨_, _, he⟩ := he; exact he.elim

end Go.Det
