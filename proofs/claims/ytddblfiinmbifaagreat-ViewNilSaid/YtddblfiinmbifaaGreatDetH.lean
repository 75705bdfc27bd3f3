/- Det, part H: every pure operation. -/
import Derived.Test.YtddblfiinmbifaaGreatDetG
namespace Go.Det

variable {φ ψ : Ph} {P : Program} {w w' : World} {σ σ' : St} {tb : Tb}

theorem run_bound {v v' : Value} {dflt lim lim' m : Nat} {code : BoundsCode} (h : bound (some v) dflt lim = some m) (hv : RV φ v v') (hl : lim ≤ lim') :
    (Instr.sliceBound v' lim' code).run P w = .ok m w := by
  unfold bound at h
  split at h
  · rename_i e; cases e
  · rename_i k i e
    cases e
    cases hv
    split at h
    · rename_i n
      split at h
      · rename_i hle
        cases h
        simp only [Instr.sliceBound, asIntOf, Sem.run_bind, Sem.run_pure, Result.andThen_ok, Int.ofNat_eq_natCast]
        rw [if_pos (by omega)]
        simp
      · cases h
    · cases h
  · cases h

/-- options of operands, and of values -/
def ov (ρ : Operand → Option Value) (o : Option Operand) : Option (Option Value) :=
  match o with | none => some none | some o => (ρ o).map some

theorem ov_cases {ρ : Operand → Option Value} {ρ' : Operand → Value} (hρ : ∀ x v, ρ x = some v → RV φ v (ρ' x)) {o : Option Operand} {r : Option Value}
    (h : ov ρ o = some r) : (o = none ∧ r = none) ∨ ∃ x v, o = some x ∧ r = some v ∧ RV φ v (ρ' x) := by
  cases o with
  | none => simp [ov] at h; exact .inl ⟨rfl, h.symm⟩
  | some x =>
    simp only [ov, Option.map_eq_some_iff] at h
    obtain ⟨v, h1, h2⟩ := h
    exact .inr ⟨x, v, rfl, h2.symm, hρ _ _ h1⟩

theorem run_bounds {ρ : Operand → Option Value} {ρ' : Operand → Value} (hρ : ∀ x v, ρ x = some v → RV φ v (ρ' x)) {lo hi : Option Operand} {vlo vhi : Option Value}
    (hlo : ov ρ lo = some vlo) (hhi : ov ρ hi = some vhi) {len lim lim' l h : Nat} {sl : Bool} (hb : bounds len lim vlo vhi = some (l, h)) (hl : lim ≤ lim') :
    (Instr.sliceBounds sl len lim' (lo.map ρ') (hi.map ρ') none).run P w = .ok (l, h, lim') w ∧ (vhi = none → h = len) ∧ (vhi ≠ none → h ≤ lim) ∧ l ≤ h ∧ (vlo = none → l = 0) := by
  unfold bounds at hb
  cases hh : bound vhi len lim with
  | none => rw [hh] at hb; cases hb
  | some h0 =>
    rw [hh] at hb
    simp only [] at hb
    cases hl0 : bound vlo 0 h0 with
    | none => rw [hl0] at hb; cases hb
    | some l0 =>
      rw [hl0] at hb
      cases hb
      have bl : ∀ {o : Option Value} {dflt lim m : Nat}, bound o dflt lim = some m → o ≠ none → m ≤ lim := by
        intro o dflt lim m hb ho
        unfold bound at hb
        split at hb
        · exact absurd rfl ho
        · split at hb
          · split at hb
            · cases hb; assumption
            · cases hb
          · cases hb
        · cases hb
      rcases ov_cases hρ hhi with ⟨rfl, rfl⟩ | ⟨xh, vh, rfl, rfl, rh⟩ <;> rcases ov_cases hρ hlo with ⟨rfl, rfl⟩ | ⟨xl, vl, rfl, rfl, rl⟩
      · simp only [bound, Option.some.injEq] at hh hl0
        subst hh hl0
        refine ⟨by simp [Instr.sliceBounds], fun _ => rfl, fun h => absurd rfl h, Nat.zero_le _, fun _ => rfl⟩
      · simp only [bound, Option.some.injEq] at hh
        subst hh
        refine ⟨?_, fun _ => rfl, fun h => absurd rfl h, bl hl0 (by simp), fun h => (by cases h)⟩
        simp [Instr.sliceBounds, run_bound hl0 rl (Nat.le_refl _)]
      · simp only [bound, Option.some.injEq] at hl0
        subst hl0
        refine ⟨?_, fun h => (by cases h), fun _ => bl hh (by simp), Nat.zero_le _, fun _ => rfl⟩
        simp [Instr.sliceBounds, run_bound hh rh hl]
      · refine ⟨?_, fun h => (by cases h), fun _ => bl hh (by simp), bl hl0 (by simp), fun h => (by cases h)⟩
        simp [Instr.sliceBounds, run_bound hh rh hl, run_bound hl0 rl (Nat.le_refl _)]

theorem sim_slice (hok : tb.Ok P) {ρ : Operand → Option Value} {ρ' : Operand → Value} (hρ : ∀ x v, ρ x = some v → RV φ v (ρ' x))
    {t : TypeId} {x : Operand} {lo hi : Option Operand} {v : Value} (h : pureF P tb ρ (.slice t x lo hi none) = some v) :
    ∃ v', (Instr.sliceAt t (ρ' x) (lo.map ρ') (hi.map ρ') none).run P w = .ok v' w ∧ RV φ v v' := by
  simp only [pureF] at h
  change (match ov ρ lo, ov ρ hi with | some vlo, some vhi => _ | _, _ => none) = some v at h
  cases hlo : ov ρ lo with
  | none => rw [hlo] at h; cases h
  | some vlo =>
    cases hhi : ov ρ hi with
    | none => rw [hlo, hhi] at h; cases h
    | some vhi =>
      rw [hlo, hhi] at h
      simp only [] at h
      cases hu : tb.und t with
      | none => rw [hu] at h; cases h
      | some D =>
        rw [hu] at h
        have hD := hok.und _ _ hu
        cases hx : ρ x with
        | none => rw [hx] at h; cases D <;> cases h
        | some a =>
          rw [hx] at h
          have ha := hρ _ _ hx
          cases D <;> (try dsimp only at h) <;> try (exact absurd h (by simp))
          case string =>
            cases a <;> (try dsimp only at h) <;> try (exact absurd h (by simp))
            rename_i s
            generalize ρ' x = a' at ha
            cases ha
            split at h
            · rename_i l hh hb
              cases h
              obtain ⟨g1, -⟩ := run_bounds (P := P) (w := w) hρ hlo hhi (sl := false) hb (Nat.le_refl _)
              refine ⟨.string (s.extract l hh), ?_, .string _⟩
              simp only [Instr.sliceAt, Sem.run_bind, run_und hD, Result.andThen_ok, Instr.slice, Option.isSome_none, Bool.false_eq_true, if_false, g1, Sem.run_pure]
            · cases h
          case slice elem =>
            have conc : ∀ (a : Option Addr) (len cap' l hh : Nat) (i : TypeInfo), P.info? elem = some i →
                (Instr.sliceBounds true len cap' (lo.map ρ') (hi.map ρ') none).run P w = .ok (l, hh, cap') w →
                (Instr.sliceAt t (.slice a len cap') (lo.map ρ') (hi.map ρ') none).run P w =
                  .ok (.slice (if cap' = l then a else a.map (·.add (l * i.size))) (hh - l) (cap' - l)) w := by
              intro a len cap' l hh i hi g1
              simp only [Instr.sliceAt, Sem.run_bind, run_und hD, Result.andThen_ok, Instr.slice, g1, run_sizeOf hi, Sem.run_pure]
            cases a <;> (try dsimp only at h) <;> try (exact absurd h (by simp))
            rename_i base len cap
            generalize ρ' x = a' at ha
            cases ha with
            | sliceNil =>
              simp only [] at h
              split at h
              · rename_i p q hb hti
                cases h
                obtain ⟨i, hi, -⟩ := hok.inf _ _ hti
                obtain ⟨l, hh⟩ := p
                obtain ⟨g1, g2, g3, g4, g5⟩ := run_bounds (P := P) (w := w) hρ hlo hhi (sl := true) hb (Nat.le_refl _)
                have hh0 : hh = 0 := by
                  cases vhi with
                  | none => exact g2 rfl
                  | some _ => have := g3 (by simp); omega
                have hl0 : l = 0 := by omega
                subst hh0 hl0
                exact ⟨_, conc none 0 0 0 0 i hi g1, .sliceNil⟩
              · cases h
            | slice len cap hφ hc hu =>
              rename_i n o b d
              simp only [if_neg (Nat.not_le.2 hu)] at h
              split at h
              · rename_i l hh ti hb hti
                cases h
                obtain ⟨i, hi, hs, -⟩ := hok.inf _ _ hti
                obtain ⟨g1, g2, g3, g4, g5⟩ := run_bounds (P := P) (w := w) hρ hlo hhi (sl := true) hb (Nat.le_refl _)
                have hle : hh ≤ cap := by
                  cases vhi with
                  | none => rw [g2 rfl]; exact hc
                  | some _ => exact g3 (by simp)
                refine ⟨_, conc _ len cap l hh i hi g1, ?_⟩
                have hne : cap - l < unk := by omega
                by_cases e : cap = l
                · simp only [if_pos e]
                  exact .slice _ _ hφ (by omega) hne
                · simp only [if_neg e, Option.map_some, add_none, hs]
                  have : o + d.1 + l * ti.size = (o + l * ti.size) + d.1 := by omega
                  rw [this]
                  exact .slice _ _ hφ (by omega) hne
              · cases h
            | sliceUnk len cap' k hφ h0 hc ht =>
              rename_i n o b d
              simp only [if_pos (Nat.le_add_right unk k)] at h
              split at h
              · rename_i l hh ti hb hti
                split at h
                · rename_i hk
                  have hk : k = ti.size := by omega
                  subst hk
                  cases h
                  obtain ⟨i, hi, hs, -⟩ := hok.inf _ _ hti
                  obtain ⟨g1, g2, g3, g4, g5⟩ := run_bounds (P := P) (w := w) hρ hlo hhi (sl := true) hb hc
                  have hle : hh ≤ len := by
                    cases vhi with
                    | none => rw [g2 rfl]; exact Nat.le_refl _
                    | some _ => exact g3 (by simp)
                  refine ⟨_, conc _ len cap' l hh i hi g1, ?_⟩
                  by_cases e : l < hh
                  · rw [if_pos e, if_neg (by omega : ¬ cap' = l)]
                    simp only [Option.map_some, add_none, hs]
                    have : o + d.1 + l * ti.size = (o + l * ti.size) + d.1 := by omega
                    rw [this]
                    refine .sliceUnk _ _ _ hφ (by omega) (by omega) ?_
                    have hm : (cap' - l) * ti.size + l * ti.size = cap' * ti.size := by
                      rw [← Nat.add_mul, Nat.sub_add_cancel (by omega)]
                    omega
                  · rw [if_neg e]
                    have e0 : hh - l = 0 := by omega
                    rw [e0]
                    by_cases e1 : cap' = l
                    · rw [if_pos e1]; exact .sliceEmpty _ _ _ rfl
                    · rw [if_neg e1]
                      simp only [Option.map_some, add_none]
                      exact .sliceEmpty _ _ _ rfl
                · cases h
              · cases h
            | sliceEmpty a cap' k ha =>
              rename_i n o
              simp only [if_pos (Nat.le_add_right unk k)] at h
              split at h
              · rename_i l hh ti hb hti
                split at h
                · rename_i hk
                  have hk : k = ti.size := by omega
                  subst hk
                  cases h
                  obtain ⟨i, hi, hs, -⟩ := hok.inf _ _ hti
                  obtain ⟨g1, g2, g3, g4, g5⟩ := run_bounds (P := P) (w := w) hρ hlo hhi (sl := true) hb (Nat.zero_le cap')
                  have hh0 : hh = 0 := by
                    cases vhi with
                    | none => exact g2 rfl
                    | some _ => have := g3 (by simp); omega
                  have hl0 : l = 0 := by omega
                  subst hh0 hl0
                  refine ⟨_, conc _ 0 cap' 0 0 i hi g1, ?_⟩
                  obtain ⟨ab, ao, as⟩ := a
                  simp only at ha; subst ha
                  by_cases e1 : cap' = 0
                  · rw [if_pos e1]; exact .sliceEmpty _ _ _ rfl
                  · rw [if_neg e1]
                    simp only [Option.map_some, add_none]
                    exact .sliceEmpty _ _ _ rfl
                · cases h
              · cases h
          case array len elem =>
            cases a <;> (try dsimp only at h) <;> try (exact absurd h (by simp))
            generalize ρ' x = a' at ha
            cases ha with
            | ptrNil => cases h
            | ptr hφ =>
              rename_i n o b d
              simp only [] at h
              split at h
              · rename_i l hh ti hb hti
                split at h
                · rename_i hlt
                  cases h
                  obtain ⟨i, hi, hs, -⟩ := hok.inf _ _ hti
                  obtain ⟨g1, g2, g3, g4, g5⟩ := run_bounds (P := P) (w := w) hρ hlo hhi (sl := false) hb (Nat.le_refl _)
                  have hle : hh ≤ len := by
                    cases vhi with
                    | none => rw [g2 rfl]; exact Nat.le_refl _
                    | some _ => exact g3 (by simp)
                  refine ⟨.slice (some (if len = l then ⟨b, o + d.1, none⟩ else (⟨b, o + d.1, none⟩ : Addr).add (l * i.size))) (hh - l) (len - l), ?_, ?_⟩
                  · simp only [Instr.sliceAt, Sem.run_bind, run_und hD, Result.andThen_ok, Instr.sureAddr, Sem.run_pure, g1, run_sizeOf hi]
                  have hne : len - l < unk := by omega
                  by_cases e : len = l
                  · simp only [if_pos e]
                    exact .slice _ _ hφ (by omega) hne
                  · simp only [if_neg e, add_none, hs]
                    have : o + d.1 + l * ti.size = (o + l * ti.size) + d.1 := by omega
                    rw [this]
                    exact .slice _ _ hφ (by omega) hne
                · cases h
              · cases h

end Go.Det
