/- Det, part K: operations that make something new. -/
import Derived.Test.YtddblfiinmbifaaGreatDetJ
import Derived.Lib.ConvBytes
namespace Go.Det

variable {φ ψ : Ph} {P : Program} {w w' : World} {σ σ' : St} {tb : Tb}

theorem reps_get (zc : List Value) : ∀ (n i : Nat), i < n * zc.length → (reps zc n)[i]? = zc[i % zc.length]? := by
  intro n
  induction n with
  | zero => intro i h; omega
  | succ n ih =>
    intro i h
    have hr : reps zc (n + 1) = zc ++ reps zc n := by simp [reps, List.replicate_succ]
    rw [hr, List.getElem?_append]
    split
    · rename_i hlt; rw [Nat.mod_eq_of_lt hlt]
    · rename_i hge
      have hge : zc.length ≤ i := by omega
      rw [ih _ (by rw [Nat.succ_mul] at h; omega)]
      congr 1
      conv => rhs; rw [← Nat.sub_add_cancel hge]
      simp

theorem reps_length (zc : List Value) (n : Nat) : (reps zc n).length = n * zc.length := by
  unfold reps
  induction n with
  | zero => simp
  | succ n ih => rw [List.replicate_succ, List.flatten_cons, List.length_append, ih, Nat.succ_mul, Nat.add_comm]

theorem reps_eq (zc : Array Value) (n k : Nat) (h : k = 0 ∨ (zc.size ≠ 0 ∧ k = n * zc.size)) (h0 : k = 0 → reps zc.toList n = []) :
    ((Array.range k).map (zc[· % zc.size]!)).toList = reps zc.toList n := by
  rcases h with rfl | ⟨hz, rfl⟩
  · rw [h0 rfl]; simp
  · apply List.ext_getElem?
    intro i
    by_cases hi : i < n * zc.size
    · rw [reps_get _ _ _ (by simpa using hi)]
      have hm : i % zc.size < zc.size := Nat.mod_lt _ (by omega)
      simp [hi, hm]
    · rw [List.getElem?_eq_none (by simp; omega), List.getElem?_eq_none (by rw [reps_length]; simp; omega)]

theorem flatL_append : ∀ (l m : List Value), flatL (l ++ m) = (flatL l && flatL m)
  | [], m => by simp [flatL]
  | v :: l, m => by simp [flatL, flatL_append l m, Bool.and_assoc]

theorem flat_cells {z : Value} (h : flat z = true) : flatL z.cells.toList = true := by
  unfold Value.cells
  split
  · rename_i cs; simp only [flat] at h; cases cs; simpa [flatA] using h
  · simp [flatL, h]

theorem flat_reps {zc : List Value} (h : flatL zc = true) (n : Nat) : flatL (reps zc n) = true := by
  unfold reps
  induction n with
  | zero => rfl
  | succ n ih => rw [List.replicate_succ, List.flatten_cons, flatL_append, h, ih]; rfl

/-- w' is w with one fresh block, which the next name of σ stands for -/
structure Mk (φ : Ph) (σ : St) (w : World) (σ' : St) (w' : World) (tot : Nat) (C : Ob) : Prop where
  st : σ' = σ.new C
  size : w'.heap.size = w.heap.size + 1
  old : ∀ b, b < w.heap.size → w'.heap[b]? = w.heap[b]?
  os : w'.os = w.os
  output : w'.output = w.output
  tape : w'.tape = w.tape
  rb : RB (ext φ σ.next (w.heap.size, (0, tot))) w' w.heap.size (0, tot) C

theorem Mk.post {tot : Nat} {C : Ob} (h : Mk φ σ w σ' w' tot C) (hRH : RH φ σ w) (hN : φ σ.next = none) : Post φ σ w (ext φ σ.next (w.heap.size, (0, tot))) σ' w' := by
  obtain ⟨rfl, h1, h2, h3, h4, h5, h6⟩ := h
  exact post_new hRH hN h1 h2 h3 h4 h5 h6

/-- what a fresh row of cells does -/
theorem mk_row (hN : φ σ.next = none) {cs : List Value} {c : Array Value} (e : TypeId) (hc : RL φ cs c.toList) :
    Mk φ σ w (σ.new (.cells cs)) { w with heap := w.heap.push (.cells c e) } c.size (.cells cs) := by
  refine ⟨rfl, by simp, push_old w _, rfl, rfl, rfl, ⟨c, e, (0, 0), push_new w _, .inl rfl, rfl, ?_⟩⟩
  have hl := hc.length
  rw [List.drop_zero, List.take_of_length_le (by omega)]
  exact hc.mono (ext_le hN)

theorem wrap_nat (n : Nat) (h : n ≤ 281474976710656) : IntKind.i64.wrap (Int.ofNat n) = (n : Int) := by
  refine wrap_id .i64 _ ?_ ?_ <;> simp only [IntKind.min, IntKind.max, IntKind.bits, IntKind.signed, if_true, Int.ofNat_eq_natCast] <;> omega

set_option maxRecDepth 4000 in
theorem alloc_core (hok : tb.Ok P) {ρ : Operand → Option Value} {ρ' : Operand → Value} (hρ : ∀ x v, ρ x = some v → RV φ v (ρ' x))
    {o : Oper} {v : Value} (h : allocF tb ρ o.op σ = some (v, σ')) (hN : φ σ.next = none) :
    ∃ tot C v' w', (execOp ρ' o).run P w = .ok (.value v') w' ∧ Mk φ σ w σ' w' tot C ∧ RV (ext φ σ.next (w.heap.size, (0, tot))) v v' := by
  obtain ⟨dst, op, type, pos, after, guard⟩ := o
  have lift : ∀ {s : Sem Value}, (∃ tot C v' w', s.run P w = .ok v' w' ∧ Mk φ σ w σ' w' tot C ∧ RV (ext φ σ.next (w.heap.size, (0, tot))) v v') →
      ∃ tot C v' w', (do pure (.value (← s)) : Sem Next).run P w = .ok (.value v') w' ∧ Mk φ σ w σ' w' tot C ∧ RV (ext φ σ.next (w.heap.size, (0, tot))) v v' :=
    fun ⟨tot, C, v', w', h1, h2, h3⟩ => ⟨tot, C, v', w', run_v h1, h2, h3⟩
  dsimp only at h
  cases op <;> simp only [execOp]
  case alloc t =>
    refine lift ?_
    simp only [allocF] at h
    split at h
    · rename_i sz by_ z hti
      simp only [newVal, Option.some.injEq, Prod.mk.injEq] at h
      obtain ⟨rfl, rfl⟩ := h
      obtain ⟨i, hi, -, -, hz⟩ := hok.inf _ _ hti
      refine ⟨_, _, .pointer (some ⟨w.heap.size, 0, none⟩), _, ?_, mk_row hN t (cells_flat (hok.zf _ _ _ hti rfl)), .ptr (d := (0, _)) (ext_self _ _)⟩
      simp only [Instr.alloc, Sem.run_bind, run_zero hi hz, Result.andThen_ok, newVar, newRow, run_newObj, Sem.run_pure]
    · cases h
  case box t x =>
    refine lift ?_
    simp only [allocF] at h
    split at h
    · rename_i u hu
      simp only [newVal, Option.some.injEq, Prod.mk.injEq] at h
      obtain ⟨rfl, rfl⟩ := h
      refine ⟨_, _, .pointer (some ⟨w.heap.size, 0, none⟩), _, ?_, mk_row hN t (hρ _ _ hu).cells, .ptr (d := (0, _)) (ext_self _ _)⟩
      simp only [Instr.box, Sem.run_bind, Result.andThen_ok, newVar, newRow, run_newObj, Sem.run_pure]
    · cases h
  case buildSlice t len parts =>
    refine lift ?_
    simp only [allocF] at h
    split at h
    · rename_i ps elem hps ht
      obtain ⟨e1, e2⟩ := mapM_parts hρ _ _ hps
      split at h
      · rename_i size by_ z hti
        obtain ⟨i, hi, hs, -, hz⟩ := hok.inf _ _ hti
        split at h
        · cases h
        · rename_i hbig
          split at h
          · cases h
          · rename_i hunk
            split at h
            · rename_i zc hzc
              split at h
              · rename_i hzl
                split at h
                · rename_i cs hf
                  simp only [Option.some.injEq, Prod.mk.injEq] at h
                  obtain ⟨rfl, rfl⟩ := h
                  have hparts : (parts.map fun (i, x) => (i, ρ' x)).toList = parts.toList.map fun p => (p.1, ρ' p.2) := by simp
                  have hm1 : ps.map (·.1) = (parts.toList.map fun p => (p.1, ρ' p.2)).map (·.1) := by rw [e1]; simp
                  have hm2 : RL φ (ps.map (·.2)) ((parts.toList.map fun p => (p.1, ρ' p.2)).map (·.2)) := by rw [List.map_map]; exact e2
                  have hzf : flatL zc = true := by
                    by_cases h0 : len * size = 0
                    · rw [if_pos h0] at hzc; cases hzc; rfl
                    · rw [if_neg h0] at hzc
                      split at hzc
                      · rename_i zv; cases hzc; exact flat_cells (hok.zf _ _ _ hti rfl)
                      · cases hzc
                  obtain ⟨R', g1, g2⟩ := fill_rl _ _ _ (reps zc len).toArray _ hm1 hm2 (flatL_rv φ _ (flat_reps hzf len)) hf
                  refine ⟨_, _, .slice (some ⟨w.heap.size, 0, none⟩) len len, _, ?_, mk_row hN elem g2, .slice (d := (0, _)) _ _ (ext_self _ _) (Nat.le_refl _) (by omega)⟩
                  simp only [Instr.buildSlice, Sem.run_bind, run_und (hok.und _ _ ht), Result.andThen_ok, run_sizeOf hi, hs]
                  rw [if_neg hbig]
                  have hre : ((Array.range (len * size)).map (zc.toArray[· % zc.toArray.size]!)) = (reps zc len).toArray := by
                    apply Array.toList_inj.1
                    have := reps_eq zc.toArray len (len * size) (by
                      rcases Nat.eq_zero_or_pos (len * size) with h0 | h0
                      · exact .inl h0
                      · refine .inr ?_
                        have hzl : zc.length = size := hzl.resolve_left (by omega)
                        have : size ≠ 0 := by intro e; rw [e] at h0; simp at h0
                        exact ⟨by simp [hzl, this], by simp [hzl]⟩) (by
                      intro h0
                      rw [if_pos h0] at hzc; cases hzc
                      simp [reps])
                    simpa using this
                  by_cases h0 : len * size = 0
                  · rw [if_pos h0] at hzc ⊢; cases hzc
                    have hre' : Array.map (fun x => (#[] : Array Value)[x % (#[] : Array Value).size]!) (Array.range (len * size)) = (reps [] len).toArray := hre
                    simp only [Sem.run_bind, Sem.run_pure, Result.andThen_ok, hre', hparts]
                    rw [g1]
                    simp only [Sem.run_bind, newRow, run_newObj, Result.andThen_ok, Sem.run_pure]
                  · rw [if_neg h0] at hzc ⊢
                    split at hzc
                    · rename_i zv; cases hzc
                      have hre' : Array.map (fun x => zv.cells[x % zv.cells.size]!) (Array.range (len * size)) = (reps zv.cells.toList len).toArray := hre
                      simp only [Sem.run_bind, run_zero hi hz, Sem.run_pure, Result.andThen_ok, hre', hparts]
                      rw [g1]
                      simp only [Sem.run_bind, newRow, run_newObj, Result.andThen_ok, Sem.run_pure]
                    · cases hzc
                · cases h
              · cases h
            · cases h
      · cases h
    · cases h
  case makeSlice t l c =>
    refine lift ?_
    simp only [allocF] at h
    split at h
    · rename_i elem kl len kc cap ht hl hc
      split at h
      · rename_i size by_ z hti
        obtain ⟨i, hi, hs, hby, hz⟩ := hok.inf _ _ hti
        split at h
        · rename_i hb
          obtain ⟨hb1, hb2, hb3⟩ := hb
          split at h
          · rename_i zc hzc
            split at h
            · rename_i hzl
              simp only [Option.some.injEq, Prod.mk.injEq] at h
              obtain ⟨rfl, rfl⟩ := h
              have hl' := hρ _ _ hl
              have hc' := hρ _ _ hc
              generalize ρ' l = l' at hl'
              generalize ρ' c = c' at hc'
              cases hl'; cases hc'
              have hzf : flatL zc = true := by
                by_cases h0 : cap * size = 0
                · rw [if_pos h0] at hzc; cases hzc; rfl
                · rw [if_neg h0] at hzc
                  split at hzc
                  · rename_i zv; cases hzc; exact flat_cells (hok.zf _ _ _ hti rfl)
                  · cases hzc
              have hwl : IntKind.i64.wrap (Int.ofNat len) = (len : Int) := wrap_nat _ (by omega)
              have hwc : IntKind.i64.wrap (Int.ofNat cap) = (cap : Int) := wrap_nat _ (by omega)
              refine ⟨_, _, .slice (some ⟨w.heap.size, 0, none⟩) len cap, _, ?_, mk_row (c := (reps zc cap).toArray) hN elem (flatL_rv φ _ (flat_reps hzf cap)), .slice (d := (0, _)) _ _ (ext_self _ _) hb1 (by unfold unk; omega)⟩
              simp only [Instr.makeSlice, Sem.run_bind, run_und (hok.und _ _ ht), Result.andThen_ok, asInt, asIntOf, Sem.run_pure, run_info hi, hwl, hwc]
              have hlarge : ((decide ((cap : Int) < 0) || decide ((i.bytes : Int) * (cap : Int) > 2 ^ 48)) || decide ((len : Int) < 0) || decide ((len : Int) > (cap : Int))) = false := by
                have : (i.bytes : Int) * (cap : Int) ≤ 281474976710656 := by
                  rw [← Int.natCast_mul, hby]
                  have hb4 : by_ * cap ≤ 281474976710656 := hb3
                  show ((by_ * cap : Nat) : Int) ≤ _
                  omega
                simp only [Bool.or_eq_false_iff, decide_eq_false_iff_not]
                refine ⟨⟨⟨by omega, ?_⟩, by omega⟩, by omega⟩
                have e : (2 : Int) ^ 48 = 281474976710656 := by decide
                rw [e]; omega
              rw [if_neg (by rw [hlarge]; simp)]
              have hre : ((Array.range (cap * size)).map (zc.toArray[· % zc.toArray.size]!)) = (reps zc cap).toArray := by
                apply Array.toList_inj.1
                have := reps_eq zc.toArray cap (cap * size) (by
                  rcases Nat.eq_zero_or_pos (cap * size) with h0 | h0
                  · exact .inl h0
                  · refine .inr ?_
                    have hzl : zc.length = size := hzl.resolve_left (by omega)
                    have : size ≠ 0 := by intro e; rw [e] at h0; simp at h0
                    exact ⟨by simp [hzl, this], by simp [hzl]⟩) (by
                  intro h0
                  rw [if_pos h0] at hzc; cases hzc
                  simp [reps])
                simpa using this
              simp only [Sem.run_bind, Sem.run_pure, Result.andThen_ok, run_askRoom, run_sizeOf hi, hs, Int.toNat_natCast]
              by_cases h0 : cap * size = 0
              · rw [if_pos h0] at hzc; rw [if_pos h0]; cases hzc
                have hre' : Array.map (fun x => (#[] : Array Value)[x % (#[] : Array Value).size]!) (Array.range (cap * size)) = (reps [] cap).toArray := hre
                simp only [Sem.run_bind, Sem.run_pure, Result.andThen_ok, hre', newRow, run_newObj]
              · rw [if_neg h0] at hzc; rw [if_neg h0]
                split at hzc
                · rename_i zv; cases hzc
                  have hre' : Array.map (fun x => zv.cells[x % zv.cells.size]!) (Array.range (cap * size)) = (reps zv.cells.toList cap).toArray := hre
                  simp only [Sem.run_bind, run_zero hi hz, Sem.run_pure, Result.andThen_ok, hre', newRow, run_newObj]
                · cases hzc
            · cases h
          · cases h
        · cases h
      · cases h
    · cases h
  case convert src dst x =>
    refine lift ?_
    simp only [allocF] at h
    split at h
    · rename_i e s h1 h2 h3
      split at h
      · rename_i h4
        simp only [Option.some.injEq, Prod.mk.injEq] at h
        obtain ⟨rfl, rfl⟩ := h
        have hx := hρ _ _ h3
        generalize ρ' x = x' at hx
        cases hx
        have hw : ∀ b, b < w.heap.size → (Lib.bytesWorld w e s).heap[b]? = w.heap[b]? := fun b hb => Lib.bytesWorld_at_old w e s b hb
        refine ⟨_, _, _, _, Lib.run_convert_string_bytes w src dst e s (hok.und _ _ h1) (hok.und _ _ h2) (hok.und _ _ h4),
          ⟨rfl, Lib.bytesWorld_size w e s, hw, rfl, rfl, rfl, ⟨_, _, _, Lib.bytesWorld_at_new w e s, ?_, rfl, ?_⟩⟩, ?_⟩
        · exact .inr (Nat.le_refl _)
        · rw [List.drop_zero]
          have e1 : (Lib.bytesCells w e s).toList = (s.data.toList.map fun b => Value.int .u8 b.toNat) ++ (Array.replicate (grownCap w s.size 0 e - s.size) (Value.int .u8 0)).toList := by
            simp [Lib.bytesCells]
          rw [e1, List.take_left']
          · exact flatL_rv _ _ (flatL_map (fun _ => rfl) _)
          · simp
        · by_cases h0 : s.size = 0
          · rw [h0]; exact .sliceEmpty _ _ _ rfl
          · refine .sliceUnk (d := (0, _)) _ _ _ (ext_self _ _) (by omega) (grownCap_ge w s.size 0 e) ?_
            have := grownCap_ge w s.size 0 e
            simp [Lib.bytesCells]; omega
      · cases h
    · cases h
  case makeMap t r =>
    refine lift ?_
    cases r with
    | some r => simp [allocF] at h
    | none =>
      simp only [allocF, Option.some.injEq, Prod.mk.injEq] at h
      obtain ⟨rfl, rfl⟩ := h
      refine ⟨0, _, .map (some w.heap.size), { w with heap := w.heap.push (.map #[] 0) }, by simp [Instr.makeMap], ⟨rfl, by simp, push_old w _, rfl, rfl, rfl, ⟨rfl, #[], push_new w _, .nil, .nil, rfl⟩⟩, .map (ext_self _ _)⟩
  all_goals (simp [allocF] at h)

end Go.Det
