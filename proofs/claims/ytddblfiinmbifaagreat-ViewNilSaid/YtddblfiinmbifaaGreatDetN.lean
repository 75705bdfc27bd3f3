/- Det, part N: a region in the order of its text. -/
import Derived.Test.YtddblfiinmbifaaGreatDetM
namespace Go.Det

variable {φ ψ : Ph} {P : Program} {w w' : World} {σ σ' : St} {tb : Tb} {call : CallF}

/-- related frames -/
structure RA (φ : Ph) (D : List Deferred) (t : Tm) (a : Act) : Prop where
  tmps : RL φ t a.tmps.toList
  defers : a.defers = D

theorem stCells_next {n o : Nat} {vs : List Value} (h : stCells σ n o vs = some σ') : σ'.next = σ.next := by
  unfold stCells at h
  split at h
  · split at h
    · split at h
      · cases h; rfl
      · cases h
    · cases h
  · cases h

theorem append_next {elem : TypeId} {s x v : Value} (h : appendF tb elem σ s x = some (v, σ')) : σ.next ≤ σ'.next := by
  unfold appendF at h
  split at h
  · split at h
    · cases h
    · split at h
      · cases h
      · split at h
        · split at h
          · split at h
            · simp only [Option.some.injEq, Prod.mk.injEq] at h; obtain ⟨-, rfl⟩ := h; exact Nat.le_refl _
            · split at h
              · simp only [Option.some.injEq, Prod.mk.injEq] at h; obtain ⟨-, rfl⟩ := h; exact Nat.le_succ _
              · cases h
          · cases h
        · split at h
          · split at h
            · cases h
            · split at h
              · simp only [Option.some.injEq, Prod.mk.injEq] at h; obtain ⟨-, rfl⟩ := h; exact Nat.le_refl _
              · split at h
                · split at h
                  · simp only [Option.some.injEq, Prod.mk.injEq] at h; obtain ⟨-, rfl⟩ := h; exact Nat.le_succ _
                  · cases h
                · cases h
          · split at h
            · split at h
              · rename_i hs
                simp only [Option.some.injEq, Prod.mk.injEq] at h; obtain ⟨-, rfl⟩ := h; rw [stCells_next hs]; exact Nat.le_refl _
              · cases h
            · split at h
              · split at h
                · simp only [Option.some.injEq, Prod.mk.injEq] at h; obtain ⟨-, rfl⟩ := h; exact Nat.le_succ _
                · cases h
              · cases h
        · cases h
  · cases h

theorem copy_next {elem : TypeId} {s x v : Value} (h : copyF tb elem σ s x = some (v, σ')) : σ.next ≤ σ'.next := by
  unfold copyF at h
  split at h
  · dsimp only at h
    split at h
    · cases h
    · split at h
      · cases h
      · split at h
        · split at h
          · simp only [Option.some.injEq, Prod.mk.injEq] at h; obtain ⟨-, rfl⟩ := h; exact Nat.le_refl _
          · cases h
        · split at h
          · simp only [Option.some.injEq, Prod.mk.injEq] at h; obtain ⟨-, rfl⟩ := h; exact Nat.le_refl _
          · split at h
            · rename_i hs
              simp only [Option.some.injEq, Prod.mk.injEq] at h; obtain ⟨-, rfl⟩ := h; rw [stCells_next hs]; exact Nat.le_refl _
            · cases h
        · cases h
  · cases h

theorem act_next {ρ : Operand → Option Value} {op : Op} {v : Value} (h : actF tb ρ op σ = some (v, σ')) : σ.next ≤ σ'.next := by
  unfold actF at h
  split at h
  · split at h
    · split at h
      · rename_i hs
        simp only [Option.some.injEq, Prod.mk.injEq] at h; obtain ⟨-, rfl⟩ := h
        unfold stVar at hs
        split at hs
        · split at hs
          · rw [stCells_next hs]; exact Nat.le_refl _
          · cases hs
        · cases hs
      · cases h
    · cases h
  · split at h
    · split at h
      · split at h
        · split at h
          · simp only [Option.some.injEq, Prod.mk.injEq] at h; obtain ⟨-, rfl⟩ := h; exact Nat.le_refl _
          · cases h
        · cases h
      · cases h
    · cases h
  · split at h
    · split at h
      · split at h
        · cases h
        · exact append_next h
      · cases h
    · cases h
  · split at h
    · split at h
      · exact copy_next h
      · cases h
    · cases h
  · cases h

theorem execO_next (hcall : CallOk P call) {ρ : Operand → Option Value} {op : Op} {v : Value} (h : execO P tb call ρ op σ = some (v, σ')) : σ.next ≤ σ'.next := by
  unfold execO at h
  split at h
  · split at h
    · cases h; exact Nat.le_refl _
    · cases h
  · split at h
    · cases h; exact Nat.le_refl _
    · split at h
      · cases h; exact Nat.le_refl _
      · cases h
  · obtain ⟨C, rfl⟩ := alloc_new h; exact Nat.le_succ _
  · exact act_next h
  · split at h
    · exact (hcall _ _ _ _ _ h).1
    · cases h

theorem runOps_next (hcall : CallOk P call) {all : List Oper} : ∀ (rest : List Oper) (t : Tm) (σ : St) (t' : Tm) (σ' : St),
    runOps P tb call all rest t σ = some (t', σ') → σ.next ≤ σ'.next := by
  intro rest
  induction rest with
  | nil => intro t σ t' σ' h; simp only [runOps, Option.some.injEq, Prod.mk.injEq] at h; obtain ⟨-, rfl⟩ := h; exact Nat.le_refl _
  | cons o rest ih =>
    intro t σ t' σ' h
    simp only [runOps, settle_eq, fVal_eq, putK_eq] at h
    split at h
    · split at h
      · rename_i v σ1 hx
        exact Nat.le_trans (execO_next hcall hx) (ih _ _ _ _ h)
      · cases h
    · exact ih _ _ _ _ h

theorem want_of_rl {ops : List Oper} {t : Tm} {a : Act} (ht : RL φ t a.tmps.toList) (o : Oper) : Region.wanted o (yielded ops.toArray a.tmps) = wantA ops t o := by
  refine want_eq (φ := φ) o ?_ ?_
  · intro j want d _ _ v hv
    obtain ⟨v', h1, h2⟩ := ht.get hv
    exact ⟨v', by rw [← Array.getElem?_toList]; exact h1, h2⟩
  · intro d hd
    have := ht.get_none hd
    rw [← Array.getElem?_toList]; exact this

theorem runOps_sim (hok : tb.Ok P) (hcall : CallOk P call) {D : List Deferred} (r : Option Nat) {all : List Oper} {Q : Exit → Act → World → Prop} :
    ∀ (rest : List Oper) (pre : List Oper) (t : Tm) (σ : St) (t' : Tm) (σ' : St) (φ : Ph) (a : Act) (w : World), all = pre ++ rest →
      runOps P tb call all rest t σ = some (t', σ') → RA φ D t a → RH φ σ w → NoName φ σ σ' →
      (∀ φ' a' w', RA φ' D t' a' → Post φ σ w φ' σ' w' → Q .normal a' w') →
      wpOpsIn (Fr r) 0 P all.toArray Q ((List.range all.length).drop pre.length) a w := by
  intro rest
  induction rest with
  | nil =>
    intro pre t σ t' σ' φ a w hall h hA hH hN hQ
    simp only [runOps, Option.some.injEq, Prod.mk.injEq] at h
    obtain ⟨rfl, rfl⟩ := h
    have : (List.range all.length).drop pre.length = [] := by
      apply List.drop_of_length_le; simp [hall]
    rw [this]
    exact hQ _ _ _ hA (.refl hH)
  | cons o rest ih =>
    intro pre t σ t' σ' φ a w hall h hA hH hN hQ
    have hlen : pre.length < all.length := by simp [hall]
    have hd : (List.range all.length).drop pre.length = pre.length :: (List.range all.length).drop (pre ++ [o]).length := by
      rw [List.drop_eq_getElem_cons (by simpa using hlen)]
      simp
    have hget : all.toArray[pre.length]? = some o := by simp [hall]
    rw [hd]
    simp only [wpOpsIn, hget]
    rw [want_of_rl hA.tmps]
    simp only [runOps, settle_eq, fVal_eq, putK_eq] at h
    have hall' : all = (pre ++ [o]) ++ rest := by simp [hall]
    split at h
    · rename_i hw
      rw [if_pos hw]
      split at h
      · rename_i v σ1 hx
        have hn1 := execO_next hcall hx
        have hn2 := runOps_next hcall _ _ _ _ _ h
        refine sim_op hok hcall hH (opd_rv hA.tmps) hx (hN.left hn2) ?_ r
        intro φ1 v' w1 p1 hv
        refine ih (pre ++ [o]) _ _ _ _ φ1 _ _ hall' h ⟨put_rl (hA.tmps.mono p1.le) hv _, by rw [put_defers]; exact hA.defers⟩ p1.rh (hN.right p1) ?_
        intro φ2 a2 w2 hA2 p2
        exact hQ φ2 a2 w2 hA2 (p1.trans p2 hN)
      · cases h
    · rename_i hw
      rw [if_neg (by rw [hw]; decide)]
      exact ⟨fun _ _ => trivial, ih (pre ++ [o]) _ _ _ _ φ _ _ hall' h ⟨put_rl hA.tmps (rv_undef _) _, by rw [put_defers]; exact hA.defers⟩ hH hN hQ⟩

theorem region_sim (hok : tb.Ok P) (hcall : CallOk P call) {D : List Deferred} (r : Option Nat) {ops : Array Oper} {id : Nat} {t t' : Tm} {Q : Exit → Act → World → Prop} {a : Act}
    (h : runOps P tb call ops.toList ops.toList t σ = some (t', σ')) (hA : RA φ D t a) (hH : RH φ σ w) (hN : NoName φ σ σ')
    (hQ : ∀ φ' a' w', RA φ' D t' a' → Post φ σ w φ' σ' w' → Q .normal a' w') : (Code.region id ops false).wpIn (Fr r) 0 P Q a w := by
  refine wpIn_region ?_
  have := runOps_sim hok hcall r (Q := Q) ops.toList [] t σ t' σ' φ a w rfl h hA hH hN hQ
  simpa using this

end Go.Det
