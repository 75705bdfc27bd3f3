/- Det, part D: runs of the model's small programs, and steps of heaps. -/
import Derived.Test.YtddblfiinmbifaaGreatDetC
namespace Go.Det

variable {φ ψ : Ph} {P : Program} {w w' : World} {σ σ' : St}

mutual
theorem flat_eq (φ : Ph) : ∀ v v', flat v = true → RV φ v v' → v' = v
  | _, _, _, .bool b => rfl
  | _, _, _, .int k n => rfl
  | _, _, _, .string s => rfl
  | _, _, _, .ptrNil => rfl
  | _, _, h, .ptr _ => by simp [flat] at h
  | _, _, _, .sliceNil => rfl
  | _, _, h, .slice .. => by simp [flat] at h
  | _, _, h, .sliceUnk .. => by simp [flat] at h
  | _, _, h, .sliceEmpty .. => by simp [flat] at h
  | .func fn fi ca, .func _ fi' ca', h, .func _ hy h1 h2 => by
    have h : flatA fi = true ∧ flatA ca = true := by
      cases fn <;> simp only [flat, Bool.and_eq_true, Bool.false_eq_true] at h <;> exact h
    have e1 := flatA_eq φ fi fi' h.1 h1
    have e2 := flatA_eq φ ca ca' h.2 h2
    subst e1 e2; rfl
  | _, _, h, .yield _ => by simp [flat] at h
  | _, _, _, .nilFunc => rfl
  | .iface t v, .iface _ v', h, .iface _ h1 => by
    have e := flat_eq φ v v' (by simpa [flat] using h) h1
    subst e; rfl
  | _, _, _, .nilIface => rfl
  | _, _, _, .mapNil => rfl
  | _, _, h, .map _ => by simp [flat] at h
  | .agg cs, .agg cs', h, .agg h1 => by
    have e := flatA_eq φ cs cs' (by simpa [flat] using h) h1
    subst e; rfl
  | .tuple cs, .tuple cs', h, .tuple h1 => by
    have e := flatA_eq φ cs cs' (by simpa [flat] using h) h1
    subst e; rfl
theorem flatA_eq (φ : Ph) : ∀ cs cs' : Array Value, flatA cs = true → RL φ cs.toList cs'.toList → cs' = cs
  | ⟨l⟩, ⟨l'⟩, h, hr => by
    have := flatL_eq φ l l' (by simpa [flatA] using h) hr
    subst this; rfl
theorem flatL_eq (φ : Ph) : ∀ l l' : List Value, flatL l = true → RL φ l l' → l' = l
  | [], _, _, .nil => rfl
  | v :: l, _, h, .cons (v' := v') (l' := l') h1 h2 => by
    simp only [flatL, Bool.and_eq_true] at h
    rw [flat_eq φ v v' h.1 h1, flatL_eq φ l l' h.2 h2]
end

/-! ## runs -/
theorem run_und {t : TypeId} {d : TypeDesc} (h : P.underlying t = some d) (w : World) : (underlying t).run P w = .ok d w := by
  simp [underlying, h]
theorem run_info {t : TypeId} {i : TypeInfo} (h : P.info? t = some i) (w : World) : (typeInfo t).run P w = .ok i w := by
  simp [typeInfo, h]
theorem run_sizeOf {t : TypeId} {i : TypeInfo} (h : P.info? t = some i) (w : World) : (sizeOf t).run P w = .ok i.size w := by
  simp [sizeOf, run_info h]
theorem run_zero {t : TypeId} {i : TypeInfo} {z : Value} (h : P.info? t = some i) (hz : i.zero = some z) (w : World) : (zeroValue t).run P w = .ok z w := by
  simp [zeroValue, run_info h, hz]

theorem add_none (b o k : Nat) : (⟨b, o, none⟩ : Addr).add k = ⟨b, o + k, none⟩ := by
  unfold Addr.add; split
  · subst_vars; rfl
  · rfl

theorem cell_at {b o : Nat} {c : Array Value} {e : TypeId} {fr : Nat × Nat} (h : w.heap[b]? = some (.cells c e fr)) : w.cell? ⟨b, o, none⟩ = c[o]? := by
  simp [World.cell?, h]

theorem frozen_at {b o : Nat} {c : Array Value} {e : TypeId} {fr : Nat × Nat} (h : w.heap[b]? = some (.cells c e fr))
    (hf : ∀ i, i < c.size → ¬(fr.1 ≤ i ∧ i < fr.2)) (ho : o < c.size) : w.frozen? ⟨b, o, none⟩ = false := by
  obtain ⟨lo, hi⟩ := fr
  have := hf o ho
  simp only [World.frozen?, h]
  simpa using this

theorem run_loadCellsFrom {b : Nat} {c : Array Value} {e : TypeId} {fr : Nat × Nat} (h : w.heap[b]? = some (.cells c e fr)) (o : Nat) :
    ∀ (k i : Nat) (acc : Array Value), o + i + k ≤ c.size →
      (loadCellsFrom ⟨b, o, none⟩ i k acc).run P w = .ok (acc ++ ((c.toList.drop (o + i)).take k).toArray) w := by
  intro k
  induction k with
  | zero => intro i acc _; simp [loadCellsFrom]
  | succ k ih =>
    intro i acc hk
    have hlt : o + i < c.size := by omega
    simp only [loadCellsFrom, Sem.run_bind, run_load, add_none, cell_at h]
    rw [Array.getElem?_eq_getElem hlt]
    simp only [Result.andThen_ok]
    rw [ih (i + 1) _ (by omega)]
    congr 1
    have hd : c.toList.drop (o + i) = c[o + i] :: c.toList.drop (o + i + 1) := by
      rw [List.drop_eq_getElem_cons (by simpa using hlt)]; simp
    rw [hd, List.take_succ_cons, ← Array.toList_inj]
    simp [Nat.add_assoc]

theorem run_loadCells {b o k : Nat} {c : Array Value} {e : TypeId} {fr : Nat × Nat} (h : w.heap[b]? = some (.cells c e fr)) (hk : o + k ≤ c.size) :
    (loadCells ⟨b, o, none⟩ k).run P w = .ok ((c.toList.drop o).take k).toArray w := by
  have := run_loadCellsFrom (P := P) h o k 0 #[] (by omega)
  simpa [loadCells] using this

/-- w' is w with another object in block b -/
structure Upd (w : World) (b : Nat) (o : Obj) (w' : World) : Prop where
  here : w'.heap[b]? = some o
  there : ∀ b', b' ≠ b → w'.heap[b']? = w.heap[b']?
  size : w'.heap.size = w.heap.size
  os : w'.os = w.os
  output : w'.output = w.output
  tape : w'.tape = w.tape

theorem Upd.same {b : Nat} {o : Obj} (h : w.heap[b]? = some o) : Upd w b o w := ⟨h, fun _ _ => rfl, rfl, rfl, rfl, rfl⟩
theorem Upd.trans {w₁ w₂ w₃ : World} {b : Nat} {o o' : Obj} (h : Upd w₁ b o w₂) (h' : Upd w₂ b o' w₃) : Upd w₁ b o' w₃ :=
  ⟨h'.here, fun b' hb => by rw [h'.there b' hb, h.there b' hb], by rw [h'.size, h.size], by rw [h'.os, h.os], by rw [h'.output, h.output], by rw [h'.tape, h.tape]⟩

theorem upd_setCell {b o : Nat} {c : Array Value} {e : TypeId} {fr : Nat × Nat} (h : w.heap[b]? = some (.cells c e fr)) (v : Value) :
    Upd w b (.cells (c.setIfInBounds o v) e fr) (w.setCell ⟨b, o, none⟩ v) where
  here := by
    simp only [World.setCell]
    rw [Array.getElem?_modify]
    simp [h]
  there b' hb := by
    simp only [World.setCell]
    rw [Array.getElem?_modify]
    rw [if_neg (fun h => hb h.symm)]
  size := by simp [World.setCell]
  os := rfl
  output := rfl
  tape := rfl

/-- cells with a stretch written over -/
def over (c : List Value) (o : Nat) (vs : List Value) : List Value := c.take o ++ vs ++ c.drop (o + vs.length)

theorem run_storeCells {e : TypeId} {fr : Nat × Nat} {b o : Nat} : ∀ (vs : List Value) (w : World) (c : Array Value) (i : Nat),
    w.heap[b]? = some (.cells c e fr) → (∀ i, i < c.size → ¬(fr.1 ≤ i ∧ i < fr.2)) → o + i + vs.length ≤ c.size → vs.all Value.oneCell' = true →
    ∃ w' c', (storeCells ⟨b, o, none⟩ vs i).run P w = .ok () w' ∧ Upd w b (.cells c' e fr) w' ∧ c'.size = c.size ∧ c'.toList = over c.toList (o + i) vs := by
  intro vs
  induction vs with
  | nil => intro w c i h _ hk _; exact ⟨w, c, by simp [storeCells], .same h, rfl, by simp [over]⟩
  | cons v vs ih =>
    intro w c i h hf hk hv
    simp only [List.all_cons, Bool.and_eq_true] at hv
    simp only [List.length_cons] at hk
    have hlt : o + i < c.size := by omega
    have hu := upd_setCell (o := o + i) h v
    obtain ⟨w', c', h1, h2, h3, h4⟩ := ih (w.setCell ⟨b, o + i, none⟩ v) (c.setIfInBounds (o + i) v) (i + 1) hu.here (by simpa using hf) (by simp; omega) hv.2
    refine ⟨w', c', ?_, hu.trans h2, by simpa using h3, ?_⟩
    · simp only [storeCells, Sem.run_bind, add_none]
      rw [run_store _ _ _ _ _ hv.1, cell_at h, Array.getElem?_eq_getElem hlt]
      simp only [frozen_at h hf hlt, Bool.false_eq_true, if_false, Result.andThen_ok]
      exact h1
    · rw [h4, over, over]
      have hl : (o + i) < c.toList.length := by simpa using hlt
      have e1 : (c.setIfInBounds (o + i) v).toList = c.toList.take (o + i) ++ v :: c.toList.drop (o + i + 1) := by
        rw [Array.toList_setIfInBounds, List.set_eq_take_append_cons_drop, if_pos hl]
      have hlen : (c.toList.take (o + i)).length = o + i := by simp; omega
      rw [e1]
      have e2 : (c.toList.take (o + i) ++ v :: c.toList.drop (o + i + 1)).take (o + (i + 1)) = c.toList.take (o + i) ++ [v] := by
        rw [List.take_append, hlen, List.take_of_length_le (by rw [hlen]; omega)]
        have : o + (i + 1) - (o + i) = 1 := by omega
        rw [this]; rfl
      have e3 : (c.toList.take (o + i) ++ v :: c.toList.drop (o + i + 1)).drop (o + (i + 1) + vs.length) = c.toList.drop (o + i + (vs.length + 1)) := by
        rw [List.drop_append, hlen, List.drop_of_length_le (by rw [hlen]; omega)]
        have : o + (i + 1) + vs.length - (o + i) = vs.length + 1 := by omega
        rw [this, List.drop_succ_cons, List.drop_drop]
        simp [Nat.add_assoc, Nat.add_comm, Nat.add_left_comm]
      rw [e2, e3]
      simp

/-! ## related rows -/
theorem RB.row {b : Nat} {d : Nat × Nat} {cs : List Value} (h : RB φ w b d (.cells cs)) {o k : Nat} {l : List Value} (hk : 0 < k)
    (hl : (cs.drop o).take k = l) (hlen : l.length = k) :
    ∃ c e fr, w.heap[b]? = some (.cells c e fr) ∧ (∀ i, i < c.size → ¬(fr.1 ≤ i ∧ i < fr.2)) ∧ o + d.1 + k ≤ c.size ∧ RL φ l ((c.toList.drop (o + d.1)).take k) := by
  obtain ⟨c, e, fr, h1, h2, ht, h3⟩ := h
  have hL := h3.length
  simp only [List.length_take, List.length_drop, Array.length_toList] at hL
  have hle : o + k ≤ cs.length := by
    have : ((cs.drop o).take k).length = k := by rw [hl]; exact hlen
    simp at this; omega
  refine ⟨c, e, fr, h1, frz h2, by omega, ?_⟩
  have := (h3.drop o).take k
  rw [hl] at this
  rw [List.drop_take, List.drop_drop, List.take_take] at this
  have e1 : min k (cs.length - o) = k := by omega
  rw [e1, Nat.add_comm d.1 o] at this
  exact this

theorem RH.cellsOf (hRH : RH φ σ w) {n b : Nat} {d : Nat × Nat} {cs : List Value} (hc : σ.cellsAt n = some cs) (hφ : φ n = some (b, d)) : RB φ w b d (.cells cs) := by
  unfold St.cellsAt at hc
  split at hc
  · rename_i B hB; cases hc; exact hRH.blk n _ b d hB hφ
  · cases hc

theorem St.cellsAt_get {n : Nat} {cs : List Value} (hc : σ.cellsAt n = some cs) : σ.hp.get n = some (.cells cs) := by
  unfold St.cellsAt at hc
  split at hc
  · rename_i B hB; cases hc; exact hB
  · cases hc

/-- reading a row -/
theorem sim_ld (hRH : RH φ σ w) {n o k b : Nat} {d : Nat × Nat} {l : List Value} (h : ldCells σ n o k = some l) (hφ : φ n = some (b, d)) :
    ∃ l', (loadCells ⟨b, o + d.1, none⟩ k).run P w = .ok l'.toArray w ∧ RL φ l l' := by
  unfold ldCells at h
  split at h
  · rename_i cs hc
    split at h
    · rename_i hk; subst hk; cases h; exact ⟨[], by simp [loadCells, loadCellsFrom], .nil⟩
    · rename_i hk
      dsimp only at h
      split at h
      · rename_i hlen
        cases h
        obtain ⟨c, e, fr, h1, h2, h3, h4⟩ := (hRH.cellsOf hc hφ).row (by omega) rfl hlen
        exact ⟨_, run_loadCells h1 h3, h4⟩
      · cases h
  · cases h

def aggD : TypeDesc → Bool
  | .struct _ | .array _ _ => true
  | _ => false

theorem run_isAgg {t : TypeId} {d : TypeDesc} (h : P.underlying t = some d) (w : World) :
    (isAgg t).run P w = .ok (aggD d) w := by
  simp only [isAgg, Sem.run_bind, run_und h, Result.andThen_ok]
  cases d <;> rfl

theorem sim_ldVar {tb : Tb} (hok : tb.Ok P) (hRH : RH φ σ w) {t : TypeId} {a a' v : Value} (h : ldVar tb t σ a = some v) (ha : RV φ a a') :
    ∃ v', (Instr.loadAt t a').run P w = .ok v' w ∧ RV φ v v' := by
  unfold ldVar at h
  split at h
  · rename_i n o
    cases ha with
    | ptr hφ =>
      rename_i b d
      have agg : ∀ D, P.underlying t = some D → aggD D = true →
          (match tb.inf t with
            | some x => match ldCells σ n o x.size with | some l => some (Value.agg l.toArray) | none => none
            | none => none) = some v →
          ∃ v', (Instr.loadAt t (.pointer (some ⟨b, o + d.1, none⟩))).run P w = .ok v' w ∧ RV φ v v' := by
        intro D hD hagg h
        split at h
        · rename_i x hx
          obtain ⟨i, hi, hsz, -, -⟩ := hok.inf _ _ hx
          split at h
          · rename_i l hl
            cases h
            obtain ⟨l', h1, h2⟩ := sim_ld (P := P) hRH hl hφ
            refine ⟨.agg l'.toArray, ?_, .agg (by simpa using h2)⟩
            simp only [Instr.loadAt, Instr.sureAddr, loadVar, Sem.run_bind, Sem.run_pure, Result.andThen_ok, run_isAgg hD, hagg]
            simp only [if_true]
            simp only [Sem.run_bind, run_sizeOf hi, hsz, Result.andThen_ok, h1, Sem.run_pure]
          · cases h
        · cases h
      cases hu : tb.und t with
      | none => rw [hu] at h; cases h
      | some D =>
        rw [hu] at h
        have hD := hok.und _ _ hu
        have one : aggD D = false →
            (match σ.cellsAt n with | some cs => cs[o]? | none => none) = some v →
            ∃ v', (Instr.loadAt t (.pointer (some ⟨b, o + d.1, none⟩))).run P w = .ok v' w ∧ RV φ v v' := by
          intro hagg h
          split at h
          · rename_i cs hc
            obtain ⟨c, e, fr, h1, h2, ht, h3⟩ := hRH.cellsOf hc hφ
            obtain ⟨v', hv', hr⟩ := h3.get h
            have hlt : o < cs.length := (List.getElem?_eq_some_iff.1 h).1
            rw [List.getElem?_take_of_lt hlt, List.getElem?_drop] at hv'
            refine ⟨v', ?_, hr⟩
            simp only [Instr.loadAt, Instr.sureAddr, loadVar, Sem.run_bind, Sem.run_pure, Result.andThen_ok, run_isAgg hD, hagg]
            rw [if_neg (by simp)]
            rw [run_load, cell_at h1]
            have : c[o + d.1]? = some v' := by rw [← Array.getElem?_toList, Nat.add_comm]; exact hv'
            simp only [this]
          · cases h
        cases D <;> first
          | exact agg _ hD rfl h
          | exact one rfl h
  · cases h

end Go.Det
