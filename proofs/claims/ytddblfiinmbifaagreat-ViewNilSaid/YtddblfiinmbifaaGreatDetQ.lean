/- Det, part Q: one operation of a region that draws its order, and the whole region. -/
import Derived.Test.YtddblfiinmbifaaGreatDetP
namespace Go.Det

variable {D : List Deferred}
variable {φ ψ : Ph} {P : Program} {w w' w₀ : World} {σ σ' : St} {tb : Tb} {call : CallF} {ops : List Oper} {t : Tm} {T : Nat → Tm} {S : Nat → St} {V : Nat → Value}
variable {l : Array Bool} {k : Nat} {a : Act}

structure Rdy (ops : List Oper) (l : Array Bool) (i : Nat) (o : Oper) : Prop where
  at' : ops[i]? = some o
  out : ¬ In l i
  edges : ∀ e, e ∈ o.after → Region.binds .any e = true → In l e.on

theorem Rdy.anc (h : Inv D tb ops t σ S V φ w₀ l k ψ a w) {i j : Nat} {o : Oper} (hr : Rdy ops l i o) (ha : Anc ops j i) : In l j := by
  cases ha with
  | edge h1 he hb => rw [hr.at'] at h1; cases h1; exact hr.edges _ he hb
  | step h1 he hb h2 => rw [hr.at'] at h1; cases h1; exact h.anc h2 (hr.edges _ he hb)

/-- what an operation that is ready looks at -/
theorem Inv.look (hs : Sta tb ops) (ht : Tra P tb call ops t σ T S V) (h : Inv D tb ops t σ S V φ w₀ l k ψ a w) {i : Nat} {o : Oper} (hr : Rdy ops l i o)
    {d : Nat} (hd : d ∈ o.looksAt ops.toArray) {v : Value} (hv : (T i)[d]? = some v) : ∃ v', a.tmps[d]? = some v' ∧ RV ψ v v' := by
  have hi : i < ops.length := (List.getElem?_eq_some_iff.1 hr.at').1
  have hlen : d < t.length := by
    have := (List.getElem?_eq_some_iff.1 hv).1
    rwa [ht.len i (by omega)] at this
  by_cases hw : ∃ j oj, ops[j]? = some oj ∧ oj.dst = some d ∧ j ≠ i
  · obtain ⟨j, oj, hj, hjd, hji⟩ := hw
    rcases hs.looks i j o oj d hr.at' hj (fun e => hji e.symm) hjd hd with ha | ha
    · -- it writes later
      have hlt := ha.lt hs
      have hnl : ¬ In l j := fun hin => hr.out (h.anc ha hin)
      have hother : ∀ (x : Nat) (ox : Oper), ops[x]? = some ox → ox.dst = some d → x = j := fun x ox hx hxd => hs.dsts _ _ _ _ _ hx hj hxd hjd
      rw [ht.untouched i (by omega) fun x ox hx hox hxd => by have := hother x ox hox hxd; omega] at hv
      exact h.nw d v hv fun x ox hox hin hxd => by have := hother x ox hox hxd; subst this; exact hnl hin
    · have hlt := ha.lt hs
      have hin := hr.anc h ha
      rw [ht.written hs hj hjd hlen i (by omega) hlt] at hv
      cases hv
      exact h.wr j oj d hj hin hjd hlen
  · have hno : ∀ (j : Nat) (oj : Oper), ops[j]? = some oj → j ≠ i → oj.dst ≠ some d := fun j oj hj hji hjd => hw ⟨j, oj, hj, hjd, hji⟩
    rw [ht.untouched i (by omega) fun x ox hx hox => hno x ox hox (by omega)] at hv
    exact h.nw d v hv fun x ox hox hin => hno x ox hox (fun e => by subst e; exact hr.out hin)

open Classical in
/-- what is seen of the frame, through the operands of one operation -/
noncomputable def seenBy (op : Op) (ρ : Operand → Option Value) (x : Operand) : Option Value := if x ∈ op.operands then ρ x else none

theorem Inv.rho (hs : Sta tb ops) (ht : Tra P tb call ops t σ T S V) (h : Inv D tb ops t σ S V φ w₀ l k ψ a w) {i : Nat} {o : Oper} (hr : Rdy ops l i o) :
    ∀ x v, seenBy o.op (opd (T i)) x = some v → RV ψ v (a.eval x) := by
  intro x v hx
  unfold seenBy at hx
  split at hx
  · rename_i hmem
    cases x with
    | tmp u =>
      simp only [opd, Option.some.injEq] at hx
      have hu : u ∈ o.looksAt ops.toArray := List.mem_append_left _ (List.mem_filterMap.2 ⟨.tmp u, by simpa using hmem, rfl⟩)
      have hi : i < ops.length := (List.getElem?_eq_some_iff.1 hr.at').1
      have htl := ht.len i (by omega)
      cases hT : (T i)[u]? with
      | some y =>
        have : v = y := by rw [← hx]; simp [List.getD, hT]
        subst this
        obtain ⟨v', h1, h2⟩ := h.look hs ht hr hu hT
        simpa [Act.eval, h1] using h2
      | none =>
        have : v = undef := by rw [← hx]; simp [List.getD, hT]
        subst this
        have hge : a.tmps[u]? = none := by
          rw [Array.getElem?_eq_none_iff, h.tsz, ← htl]
          simpa using hT
        simpa [Act.eval, hge] using rv_undef ψ
    | const y =>
      simp only [opd] at hx
      split at hx
      · rename_i hf; cases hx; exact flat_rv _ _ hf
      · cases hx
    | global g => cases hx
    | func f => cases hx; exact .func _ (by intro l; simp) .nil .nil
  · cases hx

theorem seenBy_same (op : Op) (ρ : Operand → Option Value) : ∀ x ∈ op.operands, ρ x = seenBy op ρ x := by
  intro x hx; unfold seenBy; rw [if_pos hx]

theorem Inv.want (hs : Sta tb ops) (ht : Tra P tb call ops t σ T S V) (h : Inv D tb ops t σ S V φ w₀ l k ψ a w) {i : Nat} {o : Oper} (hr : Rdy ops l i o) :
    Region.wanted o (yielded ops.toArray a.tmps) = wantA ops (T i) o := by
  have hi : i < ops.length := (List.getElem?_eq_some_iff.1 hr.at').1
  refine want_eq (φ := ψ) o ?_ ?_
  · intro j want d hg hd v hv
    refine h.look hs ht hr ?_ hv
    unfold Oper.looksAt
    rw [hg]
    refine List.mem_append_right _ ?_
    have : (ops.toArray[j]?).bind (·.dst) = some d := by simpa using hd
    simp only [this, Option.toList_some, List.mem_singleton]
  · intro d hd
    rw [Array.getElem?_eq_none_iff, h.tsz, ← ht.len i (by omega)]
    simpa using hd

theorem in_set {l : Array Bool} {i j : Nat} (hi : i < l.size) : In (l.setIfInBounds i true) j ↔ (j = i ∨ In l j) := by
  unfold In
  by_cases e : j = i
  · subst e; simp [Array.getD_eq_getD_getElem?, hi]
  · simp [Array.getD_eq_getD_getElem?, Array.getElem?_setIfInBounds_ne (fun h => e h.symm), e]

theorem act_tmps_put {a : Act} {dst : Option Tmp} {v : Value} {u : Nat} (h : dst ≠ some u) : (a.put dst v).tmps[u]? = a.tmps[u]? := by
  cases dst with
  | none => rfl
  | some d => simp only [Act.put]; rw [Array.getElem?_setIfInBounds_ne]; intro e; exact h (by rw [e])
theorem act_tmps_eq {a : Act} {v : Value} {u : Nat} (h : u < a.tmps.size) : (a.put (some u) v).tmps[u]? = some v := by
  simp only [Act.put]; simp [h]

/-- the frame behind an operation -/
theorem Inv.frame (hs : Sta tb ops) (h : Inv D tb ops t σ S V φ w₀ l k ψ a w) {i : Nat} {o : Oper} (hr : Rdy ops l i o) {χ : Ph} (hle : PhLe ψ χ) {v' : Value} (hv : RV χ (V i) v') :
    (a.put o.dst v').tmps.size = t.length ∧
    (∀ (j : Nat) (oj : Oper) (u : Nat), ops[j]? = some oj → In (l.setIfInBounds i true) j → oj.dst = some u → u < t.length → ∃ x', (a.put o.dst v').tmps[u]? = some x' ∧ RV χ (V j) x') ∧
    (∀ (u : Nat) (x : Value), t[u]? = some x → (∀ (j : Nat) (oj : Oper), ops[j]? = some oj → In (l.setIfInBounds i true) j → oj.dst ≠ some u) → ∃ x', (a.put o.dst v').tmps[u]? = some x' ∧ RV χ x x') := by
  have hi : i < ops.length := (List.getElem?_eq_some_iff.1 hr.at').1
  have hin := fun j => in_set (l := l) (i := i) (j := j) (by rw [h.lsz]; exact hi)
  refine ⟨?_, ?_, ?_⟩
  · have := h.tsz
    cases hd : o.dst <;> simp [Act.put, this]
  · intro j oj u hj hjin hjd hu
    by_cases e : j = i
    · subst e
      rw [hr.at'] at hj; cases hj
      rw [hjd]
      exact ⟨v', act_tmps_eq (by rw [h.tsz]; exact hu), hv⟩
    · have hne : o.dst ≠ some u := fun hd => e (hs.dsts _ _ _ _ _ hj hr.at' hjd hd)
      rw [act_tmps_put hne]
      obtain ⟨x', g1, g2⟩ := h.wr j oj u hj (((hin j).1 hjin).resolve_left e) hjd hu
      exact ⟨x', g1, g2.mono hle⟩
  · intro u x hx hnw
    rw [act_tmps_put (hnw i o hr.at' ((hin i).2 (.inl rfl)))]
    obtain ⟨x', g1, g2⟩ := h.nw u x hx fun j oj hj hjin => hnw j oj hj ((hin j).2 (.inr hjin))
    exact ⟨x', g1, g2.mono hle⟩

theorem Inv.down' (h : Inv D tb ops t σ S V φ w₀ l k ψ a w) {i : Nat} {o : Oper} (hr : Rdy ops l i o) :
    ∀ (j : Nat) (oj : Oper) (e : Edge), ops[j]? = some oj → In (l.setIfInBounds i true) j → e ∈ oj.after → Region.binds .any e = true → In (l.setIfInBounds i true) e.on := by
  have hi : i < ops.length := (List.getElem?_eq_some_iff.1 hr.at').1
  have hin := fun j => in_set (l := l) (i := i) (j := j) (by rw [h.lsz]; exact hi)
  intro j oj e hj hjin he hb
  rw [hin] at hjin ⊢
  rcases hjin with rfl | hjin
  · rw [hr.at'] at hj; cases hj; exact .inr (hr.edges e he hb)
  · exact .inr (h.down j oj e hj hjin he hb)

/-- behind an operation that changes nothing -/
theorem Inv.still (hs : Sta tb ops) (h : Inv D tb ops t σ S V φ w₀ l k ψ a w) {i : Nat} {o : Oper} (hr : Rdy ops l i o) (hna : ¬ Act' tb ops i)
    (hS : S (i + 1) = S i) {v' : Value} (hv : RV ψ (V i) v') : Inv D tb ops t σ S V φ w₀ (l.setIfInBounds i true) k ψ (a.put o.dst v') w := by
  have hi : i < ops.length := (List.getElem?_eq_some_iff.1 hr.at').1
  have hin := fun j => in_set (l := l) (i := i) (j := j) (by rw [h.lsz]; exact hi)
  obtain ⟨f1, f2, f3⟩ := h.frame hs hr (.refl ψ) hv
  have hnew : ∀ C, S (i + 1) ≠ (S i).new C := by
    intro C e
    rw [hS] at e
    have := congrArg St.next e
    simp only [St.new] at this; omega
  exact { h with
    lsz := by simp [h.lsz]
    down := h.down' hr
    before := fun j hj hA => (hin j).2 (.inr (h.before j hj hA))
    behind := fun j hj hA hjin => by
      rcases (hin j).1 hjin with rfl | hjin
      · exact hna hA
      · exact h.behind j hj hA hjin
    unl := fun j hj hjout => h.unl j hj fun hjin => hjout ((hin j).2 (.inr hjin))
    fut := fun j C hj hjin hkj hnA e => by
      rcases (hin j).1 hjin with rfl | hjin
      · exact absurd e (hnew C)
      · exact h.fut j C hj hjin hkj hnA e
    pend := fun j C hj hjout => h.pend j C hj fun hjin => hjout ((hin j).2 (.inr hjin))
    tsz := f1
    wr := f2
    nw := f3
    defers := by rw [put_defers]; exact h.defers }

end Go.Det
