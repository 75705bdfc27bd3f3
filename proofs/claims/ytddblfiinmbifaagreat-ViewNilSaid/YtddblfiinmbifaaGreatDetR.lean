/- Det, part R: a region that draws its order, whole. -/
import Derived.Test.YtddblfiinmbifaaGreatDetQ
namespace Go.Det

variable {D : List Deferred}
variable {φ ψ : Ph} {P : Program} {w w' w₀ : World} {σ σ' : St} {tb : Tb} {call : CallF} {ops : List Oper} {t : Tm} {T : Nat → Tm} {S : Nat → St} {V : Nat → Value}
variable {l : Array Bool} {k : Nat} {a : Act}

/-- behind an operation that makes something new -/
theorem Inv.made (hcall : CallOk P call) (hs : Sta tb ops) (ht : Tra P tb call ops t σ T S V) (hN : NoName φ σ (S ops.length)) (h : Inv D tb ops t σ S V φ w₀ l k ψ a w) {i : Nat} {o : Oper} (hr : Rdy ops l i o) (hna : ¬ Act' tb ops i)
    {C : Ob} {tot : Nat} (hm : Mk ψ (S i) w (S (i + 1)) w' tot C) {v' : Value} (hv : RV (ext ψ (S i).next (w.heap.size, (0, tot))) (V i) v') :
    Inv D tb ops t σ S V φ w₀ (l.setIfInBounds i true) k (ext ψ (S i).next (w.heap.size, (0, tot))) (a.put o.dst v') w' := by
  have hi : i < ops.length := (List.getElem?_eq_some_iff.1 hr.at').1
  have hin := fun j => in_set (l := l) (i := i) (j := j) (by rw [h.lsz]; exact hi)
  have hS : S (i + 1) = (S i).new C := hm.st
  have hnext : (S (i + 1)).next = (S i).next + 1 := by rw [hS]; rfl
  have hfree : ψ (S i).next = none := h.unl i hi hr.out _ (Nat.le_refl _) (by omega)
  have hle : PhLe ψ (ext ψ (S i).next (w.heap.size, (0, tot))) := ext_le hfree
  obtain ⟨f1, f2, f3⟩ := h.frame hs hr hle hv
  have hσ := Inv.next_le hcall ht i (by omega)
  have hend := ht.mono hcall (i := i + 1) (j := ops.length) (by omega) (Nat.le_refl _)
  have hlive : ∀ B, (S k).hp.get (S i).next = some B → B = C := by
    intro B hB
    by_cases hik : i < k
    · rw [h.pend i C hik hr.out hna hS] at hB; cases hB; rfl
    · have h1 := ht.mono hcall (i := k) (j := i) (by omega) (by omega)
      rw [h.rh.fresh _ h1] at hB; cases hB
  exact {
    lsz := by simp [h.lsz]
    kle := h.kle
    down := h.down' hr
    before := fun j hj hA => (hin j).2 (.inr (h.before j hj hA))
    behind := fun j hj hA hjin => by
      rcases (hin j).1 hjin with rfl | hjin
      · exact hna hA
      · exact h.behind j hj hA hjin
    le := h.le.trans hle
    rh := by
      refine { blk := ?_, inj := ?_, fresh := h.rh.fresh, lt := ?_ }
      · intro n B b d hB hψ
        by_cases e : n = (S i).next
        · subst e
          rw [ext_self] at hψ; cases hψ
          rw [hlive B hB]; exact hm.rb
        · rw [ext_ne _ e] at hψ
          exact ((h.rh.blk n B b d hB hψ).congr (hm.old b (h.rh.lt _ _ _ hψ))).mono hle
      · intro n n' B B' b d d' h1 h2 h3 h4
        by_cases e : n = (S i).next
        · by_cases e' : n' = (S i).next
          · rw [e, e']
          · subst e; rw [ext_self] at h3; cases h3; rw [ext_ne _ e'] at h4; have := h.rh.lt _ _ _ h4; omega
        · by_cases e' : n' = (S i).next
          · subst e'; rw [ext_self] at h4; cases h4; rw [ext_ne _ e] at h3; have := h.rh.lt _ _ _ h3; omega
          · rw [ext_ne _ e] at h3; rw [ext_ne _ e'] at h4; exact h.rh.inj _ _ _ _ _ _ _ h1 h2 h3 h4
      · intro n b d hψ
        rw [hm.size]
        by_cases e : n = (S i).next
        · subst e; rw [ext_self] at hψ; cases hψ; omega
        · rw [ext_ne _ e] at hψ; have := h.rh.lt _ _ _ hψ; omega
    unl := fun j hj hjout m hm1 hm2 => by
      have hji : j ≠ i := fun e => hjout ((hin j).2 (.inl e))
      rw [ext_ne]
      · exact h.unl j hj (fun hjin => hjout ((hin j).2 (.inr hjin))) m hm1 hm2
      · intro e
        rcases Nat.lt_or_gt_of_ne hji with hlt | hlt
        · have := ht.mono hcall (i := j + 1) (j := i) (by omega) (by omega); omega
        · have := ht.mono hcall (i := i + 1) (j := j) (by omega) (by omega); omega
    out := fun m hm' => by
      rw [ext_ne]
      · exact h.out m hm'
      · intro e; omega
    fut := fun j D hj hjin hkj hnA e => by
      rcases (hin j).1 hjin with rfl | hjin
      · rw [hS] at e
        have hCD : C = D := by
          have := congrArg (fun s : St => s.hp.get (S j).next) e
          simp only [new_get, if_true, Option.some.injEq] at this
          exact this
        subst hCD
        refine ⟨w.heap.size, (0, tot), ext_self _ _, hm.rb, ?_⟩
        intro m d' hm'
        by_cases e' : m = (S j).next
        · exact e'
        · rw [ext_ne _ e'] at hm'; have := h.rh.lt _ _ _ hm'; omega
      · obtain ⟨b, d, g1, g2, g3⟩ := h.fut j D hj hjin hkj hnA e
        have hb := h.rh.lt _ _ _ g1
        refine ⟨b, d, hle _ _ g1, (g2.congr (hm.old b hb)).mono hle, ?_⟩
        intro m d' hm'
        by_cases e' : m = (S i).next
        · subst e'; rw [ext_self] at hm'; cases hm'; omega
        · rw [ext_ne _ e'] at hm'; exact g3 m d' hm'
    pend := fun j D hj hjout => h.pend j D hj fun hjin => hjout ((hin j).2 (.inr hjin))
    tsz := f1
    wr := f2
    nw := f3
    defers := by rw [put_defers]; exact h.defers
    conc := fun b hb hd => by rw [hm.old b (Nat.lt_of_lt_of_le hb h.size)]; exact h.conc b hb hd
    abs := h.abs
    dead := h.dead
    newb := fun m b d h0 h1 => by
      by_cases e : m = (S i).next
      · subst e; rw [ext_self] at h1; cases h1; exact .inl h.size
      · rw [ext_ne _ e] at h1; exact h.newb m b d h0 h1
    size := by rw [hm.size]; exact Nat.le_succ_of_le h.size
    os := by rw [hm.os, h.os]
    output := by rw [hm.output, h.output]
    tape := by rw [hm.tape, h.tape] }

/-- behind an operation that acts -/
theorem Inv.acted (hcall : CallOk P call) (hs : Sta tb ops) (ht : Tra P tb call ops t σ T S V) (hN : NoName φ σ (S ops.length)) (h : Inv D tb ops t σ S V φ w₀ l k ψ a w) {o : Oper} (hr : Rdy ops l k o) (hA : Act' tb ops k)
    {χ : Ph} (hp : Post ψ (S k) w χ (S (k + 1)) w') {v' : Value} (hv : RV χ (V k) v') :
    Inv D tb ops t σ S V φ w₀ (l.setIfInBounds k true) (k + 1) χ (a.put o.dst v') w' := by
  have hi : k < ops.length := (List.getElem?_eq_some_iff.1 hr.at').1
  have hin := fun j => in_set (l := l) (i := k) (j := j) (by rw [h.lsz]; exact hi)
  obtain ⟨f1, f2, f3⟩ := h.frame hs hr hp.le hv
  have hσ := Inv.next_le hcall ht k (by omega)
  have hnx := ht.next hcall hi
  exact {
    lsz := by simp [h.lsz]
    kle := hi
    down := h.down' hr
    before := fun j hj hAj => by
      by_cases e : j = k
      · exact (hin j).2 (.inl e)
      · exact (hin j).2 (.inr (h.before j (by omega) hAj))
    behind := fun j hj hAj hjin => by
      rcases (hin j).1 hjin with rfl | hjin
      · omega
      · exact h.behind j (by omega) hAj hjin
    le := h.le.trans hp.le
    rh := hp.rh
    unl := fun j hj hjout m hm1 hm2 => by
      have hjk : j ≠ k := fun e => hjout ((hin j).2 (.inl e))
      rw [hp.dom]
      · exact h.unl j hj (fun hjin => hjout ((hin j).2 (.inr hjin))) m hm1 hm2
      · rcases Nat.lt_or_gt_of_ne hjk with hlt | hlt
        · have := ht.mono hcall (i := j + 1) (j := k) (by omega) (by omega); exact .inl (by omega)
        · have := ht.mono hcall (i := k + 1) (j := j) (by omega) (by omega); exact .inr (by omega)
    out := fun m hm => by
      rw [hp.dom]
      · exact h.out m hm
      · rcases hm with hm | hm
        · exact .inl (by omega)
        · have := ht.mono hcall (i := k + 1) (j := ops.length) (by omega) (Nat.le_refl _); exact .inr (by omega)
    fut := fun j D hj hjin hkj hnA e => by
      rcases (hin j).1 hjin with rfl | hjin
      · exact absurd hA hnA
      · obtain ⟨b, d, g1, g2, g3⟩ := h.fut j D hj hjin (by omega) hnA e
        have hb := h.rh.lt _ _ _ g1
        have hfr : (S k).hp.get (S j).next = none := h.rh.fresh _ (ht.mono hcall (by omega) (by omega))
        refine ⟨b, d, hp.le _ _ g1, (g2.congr (hp.conc b hb ?_)).mono hp.le, ?_⟩
        · intro m d' hm; rw [g3 m d' hm]; exact hfr
        · intro m d' hm
          cases h0 : ψ m with
          | some x =>
            obtain ⟨b1, d1⟩ := x
            have := hp.le _ _ h0
            rw [hm] at this; cases this
            exact g3 m _ h0
          | none =>
            rcases hp.newb m b d' h0 hm with h1 | ⟨n0, d0, h1, h2⟩
            · omega
            · rw [g3 n0 d0 h1] at h2; exact absurd hfr h2
    pend := fun j D hj hjout hnA e => by
      have hjk : j ≠ k := fun e' => hjout ((hin j).2 (.inl e'))
      have hj' : j < k := by omega
      have hjo : ¬ In l j := fun hjin => hjout ((hin j).2 (.inr hjin))
      have hlt : (S j).next < (S k).next := by
        have h1 := ht.mono hcall (i := j + 1) (j := k) (by omega) (by omega)
        rw [e] at h1; exact h1
      rw [hp.abs _ hlt (h.unl j (by omega) hjo _ (Nat.le_refl _) (by rw [e]; exact Nat.lt_succ_self _))]
      exact h.pend j D hj' hjo hnA e
    tsz := f1
    wr := f2
    nw := f3
    defers := by rw [put_defers]; exact h.defers
    conc := fun b hb hd => by
      rw [hp.conc b (Nat.lt_of_lt_of_le hb h.size) ?_]
      · exact h.conc b hb hd
      · intro m d hm
        cases h0 : φ m with
        | some x =>
          obtain ⟨b1, d1⟩ := x
          have := h.le _ _ h0
          rw [hm] at this; cases this
          have hg := hd m _ h0
          by_cases hlt : m < σ.next
          · exact h.dead m hlt hg
          · by_cases hlt' : m < (S ops.length).next
            · have := hN m (by omega) hlt'; rw [this] at h0; cases h0
            · have := ht.mono hcall (i := k) (j := ops.length) (by omega) (Nat.le_refl _)
              exact h.rh.fresh m (by omega)
        | none =>
          rcases h.newb m b d h0 hm with h1 | ⟨n0, d0, h1, h2⟩
          · omega
          · exact absurd (hd n0 d0 h1) h2
    abs := fun m hm hφ => by rw [hp.abs m (by omega) (by rw [h.out m (.inl hm)]; exact hφ)]; exact h.abs m hm hφ
    dead := fun m hm hg => hp.dead m (by omega) (h.dead m hm hg)
    newb := fun m b d h0 h1 => by
      cases h2 : ψ m with
      | some x =>
        obtain ⟨b1, d1⟩ := x
        have := hp.le _ _ h2
        rw [h1] at this; cases this
        exact h.newb m _ _ h0 h2
      | none =>
        rcases hp.newb m b d h2 h1 with h3 | ⟨n0, d0, h3, h4⟩
        · exact .inl (Nat.le_trans h.size h3)
        · cases h5 : φ n0 with
          | some x =>
            obtain ⟨b5, d5⟩ := x
            have := h.le _ _ h5
            rw [h3] at this; cases this
            refine .inr ⟨n0, _, h5, fun h6 => h4 ?_⟩
            by_cases hlt : n0 < σ.next
            · exact h.dead n0 hlt h6
            · by_cases hlt' : n0 < (S ops.length).next
              · have := hN n0 (by omega) hlt'; rw [this] at h5; cases h5
              · have := ht.mono hcall (i := k) (j := ops.length) (by omega) (Nat.le_refl _)
                exact h.rh.fresh n0 (by omega)
          | none => exact h.newb n0 b d0 h5 h3
    size := Nat.le_trans h.size hp.size
    os := by rw [hp.os, h.os]
    output := by rw [hp.output, h.output]
    tape := by rw [hp.tape, h.tape] }

end Go.Det
