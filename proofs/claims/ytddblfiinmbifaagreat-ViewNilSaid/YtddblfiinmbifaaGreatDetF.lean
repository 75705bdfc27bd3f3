/- Det, part F: what operations that look at values alone do in the model. -/
import Derived.Test.YtddblfiinmbifaaGreatDetE
namespace Go.Det

variable {φ ψ : Ph} {P : Program} {w w' : World} {σ σ' : St} {tb : Tb}

theorem mapM_rl {ρ : Operand → Option Value} {ρ' : Operand → Value} (hρ : ∀ x v, ρ x = some v → RV φ v (ρ' x)) :
    ∀ (l : List Operand) (vs : List Value), l.mapM ρ = some vs → RL φ vs (l.map ρ') := by
  intro l
  induction l with
  | nil => intro vs h; simp at h; subst h; exact .nil
  | cons x l ih =>
    intro vs h
    simp only [List.mapM_cons, Option.bind_eq_bind, Option.pure_def] at h
    cases hx : ρ x with
    | none => rw [hx] at h; simp at h
    | some v =>
      rw [hx] at h
      cases hl : l.mapM ρ with
      | none => rw [hl] at h; simp at h
      | some us =>
        rw [hl] at h; simp at h; subst h
        exact .cons (hρ _ _ hx) (ih _ hl)

theorem mapM_parts {ρ : Operand → Option Value} {ρ' : Operand → Value} (hρ : ∀ x v, ρ x = some v → RV φ v (ρ' x)) :
    ∀ (l : List (Nat × Operand)) (ps : List (Nat × Value)),
      l.mapM (opPart ρ) = some ps →
      ps.map (·.1) = l.map (·.1) ∧ RL φ (ps.map (·.2)) (l.map fun p => ρ' p.2) := by
  intro l
  induction l with
  | nil => intro vs h; simp at h; subst h; exact ⟨rfl, .nil⟩
  | cons x l ih =>
    intro vs h
    simp only [List.mapM_cons, Option.bind_eq_bind, Option.pure_def] at h
    cases hx : ρ x.2 with
    | none => simp [opPart, hx] at h
    | some v =>
      have hx' : opPart ρ x = some (x.1, v) := by simp [opPart, hx]
      rw [hx'] at h
      cases hl : l.mapM (opPart ρ) with
      | none => rw [hl] at h; simp at h
      | some us =>
        rw [hl] at h; simp at h; subst h
        obtain ⟨h1, h2⟩ := ih _ hl
        exact ⟨by simp [h1], .cons (hρ _ _ hx) h2⟩

/-! ## filling -/
theorem foldl_set_rl {f : Nat → Nat} : ∀ (l l' : List Value) (k : Nat) (A A' : Array Value), RL φ l l' → RL φ A.toList A'.toList →
    RL φ ((l.zipIdx k).foldl (fun cs x => cs.setIfInBounds (f x.2) x.1) A).toList ((l'.zipIdx k).foldl (fun cs x => cs.setIfInBounds (f x.2) x.1) A').toList := by
  intro l
  induction l with
  | nil => intro l' k A A' h hA; cases h; simpa using hA
  | cons v l ih =>
    intro l' k A A' h hA
    cases h with
    | cons h1 h2 =>
      simp only [List.zipIdx_cons, List.foldl_cons]
      refine ih _ _ _ _ h2 ?_
      rw [Array.toList_setIfInBounds, Array.toList_setIfInBounds]
      exact hA.set h1 _

theorem fill_rl {place : Nat → Option (Nat × Nat)} : ∀ (ps ps' : List (Nat × Value)) (A A' : Array Value) (R : Array Value),
    ps.map (·.1) = ps'.map (·.1) → RL φ (ps.map (·.2)) (ps'.map (·.2)) → RL φ A.toList A'.toList → Instr.fill place A ps = some R →
    ∃ R', Instr.fill place A' ps' = some R' ∧ RL φ R.toList R'.toList := by
  intro ps
  induction ps with
  | nil =>
    intro ps' A A' R h1 h2 hA h
    cases ps' with
    | nil => simp only [Instr.fill, Option.some.injEq] at h; subst h; exact ⟨A', rfl, hA⟩
    | cons _ _ => simp at h1
  | cons p ps ih =>
    intro ps' A A' R h1 h2 hA h
    cases ps' with
    | nil => simp at h1
    | cons p' ps' =>
      obtain ⟨i, v⟩ := p
      obtain ⟨i', v'⟩ := p'
      simp only [List.map_cons, List.cons.injEq] at h1
      obtain ⟨rfl, h1⟩ := h1
      simp only [List.map_cons] at h2
      cases h2 with
      | cons g1 g2 =>
        have hc := g1.cells
        have hlen : v'.cells.size = v.cells.size := by have := hc.length; simpa using this.symm
        have hAl : A'.size = A.size := by have := hA.length; simpa using this.symm
        simp only [Instr.fill] at h ⊢
        cases hp : place i with
        | none => rw [hp] at h; simp at h
        | some os =>
          obtain ⟨off, size⟩ := os
          rw [hp] at h
          simp only at h ⊢
          rw [hlen, hAl]
          split at h
          · cases h
          · rename_i hn
            rw [if_neg hn]
            refine ih ps' _ _ _ h1 g2 ?_ h
            rw [← Array.foldl_toList, ← Array.foldl_toList, Array.toList_zipIdx, Array.toList_zipIdx]
            exact foldl_set_rl (f := fun j => off + j) _ _ 0 _ _ hc hA

theorem run_fields (hok : tb.Ok P) (w : World) : ∀ (fs : List Field) (pl : List (Nat × Nat)),
    fs.mapM (fieldPl tb) = some pl →
    (fs.mapM fun f => (do pure (f.offset, ← sizeOf f.type) : Sem (Nat × Nat))).run P w = .ok pl w := by
  intro fs
  induction fs with
  | nil => intro pl h; simp at h; subst h; simp
  | cons f fs ih =>
    intro pl h
    simp only [List.mapM_cons, Option.bind_eq_bind, Option.pure_def] at h
    cases hx : tb.inf f.type with
    | none => simp [fieldPl, hx] at h
    | some x =>
      have hx' : fieldPl tb f = some (f.offset, x.size) := by simp [fieldPl, hx]
      rw [hx'] at h
      cases hl : fs.mapM (fieldPl tb) with
      | none => rw [hl] at h; simp at h
      | some us =>
        rw [hl] at h; simp at h; subst h
        obtain ⟨i, hi, hs, -, -⟩ := hok.inf _ _ hx
        have := ih _ hl
        simp only [List.mapM_cons, Sem.run_bind, run_sizeOf hi, Result.andThen_ok, Sem.run_pure, this, hs]

theorem cells_flat {z : Value} (h : flat z = true) : RL φ z.cells.toList z.cells.toList := (flat_rv φ z h).cells

theorem sim_build (hok : tb.Ok P) {ρ : Operand → Option Value} {ρ' : Operand → Value} (hρ : ∀ x v, ρ x = some v → RV φ v (ρ' x))
    {t : TypeId} {parts : Array (Nat × Operand)} {v : Value} (h : pureF P tb ρ (.build t parts) = some v) :
    ∃ v', (Instr.build t (parts.map fun (i, x) => (i, ρ' x))).run P w = .ok v' w ∧ RV φ v v' := by
  simp only [pureF] at h
  cases hps : parts.toList.mapM (opPart ρ) with
  | none => rw [hps] at h; simp at h
  | some ps =>
    rw [hps] at h
    obtain ⟨e1, e2⟩ := mapM_parts hρ _ _ hps
    cases hti : tb.inf t with
    | none => rw [hti] at h; simp at h
    | some ti =>
      rw [hti] at h
      obtain ⟨size, bytes, zero⟩ := ti
      cases zero with
      | none => simp at h
      | some z =>
        obtain ⟨i, hi, -, -, hz⟩ := hok.inf _ _ hti
        have hflat := hok.zf _ _ _ hti rfl
        have hparts : (parts.map fun (i, x) => (i, ρ' x)).toList = parts.toList.map fun p => (p.1, ρ' p.2) := by simp
        have hm1 : ps.map (·.1) = (parts.toList.map fun p => (p.1, ρ' p.2)).map (·.1) := by rw [e1]; simp
        have hm2 : RL φ (ps.map (·.2)) ((parts.toList.map fun p => (p.1, ρ' p.2)).map (·.2)) := by rw [List.map_map]; exact e2
        cases hu : tb.und t with
        | none => rw [hu] at h; simp at h
        | some D =>
          rw [hu] at h
          have hD := hok.und _ _ hu
          cases D <;> simp only [] at h <;> try (exact absurd h (by simp))
          case struct fs =>
            cases hpl : fieldsF tb fs with
            | none => rw [hpl] at h; simp at h
            | some pl =>
              rw [hpl] at h
              simp only [] at h
              cases hf : Instr.fill (pl[·]?) z.cells ps with
              | none => rw [hf] at h; simp at h
              | some R =>
                rw [hf] at h; simp at h; subst h
                obtain ⟨R', g1, g2⟩ := fill_rl _ _ _ _ _ hm1 hm2 (cells_flat (φ := φ) hflat) hf
                refine ⟨.agg R', ?_, .agg g2⟩
                have hpl' := run_fields hok w _ _ hpl
                simp only [Instr.build, Sem.run_bind, run_zero hi hz, Result.andThen_ok, run_und hD, hparts]
                simp only [Array.mapM_eq_mapM_toList, Sem.run_map]
                rw [hpl']
                simp only [Result.andThen_ok]
                have : (fun x : Nat => (pl.toArray)[x]?) = (fun x : Nat => pl[x]?) := by funext x; simp
                rw [this, g1]
                rfl
          case array n elem =>
            cases hte : tb.inf elem with
            | none => rw [hte] at h; simp at h
            | some te =>
              rw [hte] at h
              simp only [] at h
              obtain ⟨ie, hie, hse, -, -⟩ := hok.inf _ _ hte
              cases hf : Instr.fill (fun i => some (i * te.size, te.size)) z.cells ps with
              | none => rw [hf] at h; simp at h
              | some R =>
                rw [hf] at h; simp at h; subst h
                obtain ⟨R', g1, g2⟩ := fill_rl _ _ _ _ _ hm1 hm2 (cells_flat (φ := φ) hflat) hf
                refine ⟨.agg R', ?_, .agg g2⟩
                simp only [Instr.build, Sem.run_bind, run_zero hi hz, Result.andThen_ok, run_und hD, run_sizeOf hie, hparts, hse]
                rw [g1]
                rfl

theorem sim_part (hok : tb.Ok P) {t : TypeId} {cs : List Value} {A' : Array Value} {off : Nat} {v : Value} (h : partF tb t cs off = some v) (hcs : RL φ cs A'.toList) :
    ∃ v', (part t A' off).run P w = .ok v' w ∧ RV φ v v' := by
  unfold partF at h
  cases hu : tb.und t with
  | none => rw [hu] at h; simp at h
  | some D =>
    rw [hu] at h
    have hD := hok.und _ _ hu
    have agg : aggD D = true → (match tb.inf t with | some x => some (Value.agg ((cs.drop off).take x.size).toArray) | none => none) = some v →
        ∃ v', (part t A' off).run P w = .ok v' w ∧ RV φ v v' := by
      intro ha h
      cases hx : tb.inf t with
      | none => rw [hx] at h; simp at h
      | some x =>
        rw [hx] at h; simp at h; subst h
        obtain ⟨i, hi, hs, -, -⟩ := hok.inf _ _ hx
        refine ⟨.agg (A'.extract off (off + i.size)), ?_, .agg ?_⟩
        · simp only [part, Sem.run_bind, run_isAgg hD, Result.andThen_ok, ha, if_true, run_sizeOf hi, Sem.run_pure]
        · rw [Array.toList_extract, List.extract_eq_take_drop]
          have e : off + i.size - off = x.size := by omega
          rw [e]
          simpa using (hcs.drop off).take x.size
    have one : aggD D = false → cs[off]? = some v → ∃ v', (part t A' off).run P w = .ok v' w ∧ RV φ v v' := by
      intro ha h
      obtain ⟨v', h1, h2⟩ := hcs.get h
      refine ⟨v', ?_, h2⟩
      rw [Array.getElem?_toList] at h1
      simp only [part, Sem.run_bind, run_isAgg hD, Result.andThen_ok, ha, Bool.false_eq_true, if_false, h1, Sem.run_pure]
    cases D <;> first
      | exact agg rfl h
      | exact one rfl h

end Go.Det
