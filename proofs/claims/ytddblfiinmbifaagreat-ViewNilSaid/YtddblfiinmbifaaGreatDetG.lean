/- Det, part G: the pure operations. -/
import Derived.Test.YtddblfiinmbifaaGreatDetF
namespace Go.Det

variable {φ ψ : Ph} {P : Program} {w w' : World} {σ σ' : St} {tb : Tb}

theorem sim_iop {op : BinOp} {k : IntKind} {a b : Int} {v : Value} (h : iop op k a b = some v) (hs : op ≠ .shl) (hs' : op ≠ .shr) (t : TypeId) (ox oy : Operand) :
    (do eqGuard op t ox oy (.int k a) (.int k b); binOp op t (.int k a) (.int k b) : Sem Value).run P w = .ok v w ∧ flat v = true := by
  cases op <;> simp only [iop, Option.some.injEq] at h <;>
    first
    | (subst h; refine ⟨?_, rfl⟩
       simp [eqGuard, binOp, Op.intArith, Op.intBits, Op.intCmp, wrapF_eq])
    | (split at h
       · cases h
       · rename_i hb
         simp only [Option.some.injEq] at h; subst h; refine ⟨?_, rfl⟩
         simp [eqGuard, binOp, Op.intDiv, hb, wrapF_eq])
    | exact absurd rfl hs
    | exact absurd rfl hs'

theorem sim_shop {op : BinOp} {k k' : IntKind} {a b : Int} {v : Value} (h : shop op k a b = some v) (t : TypeId) (ox oy : Operand) :
    (do eqGuard op t ox oy (.int k a) (.int k' b); binOp op t (.int k a) (.int k' b) : Sem Value).run P w = .ok v w ∧ flat v = true := by
  unfold shop at h
  split at h
  · cases h
  · rename_i hb
    cases op <;> simp only [Option.some.injEq] at h <;> try (exact absurd h (by simp))
    · subst h; refine ⟨?_, rfl⟩
      simp [eqGuard, binOp, Op.shift, hb, wrapF_eq, shlF_eq]
    · subst h; refine ⟨?_, rfl⟩
      simp [eqGuard, binOp, Op.shift, hb, shrF_eq]

theorem nilness_rv {v v' : Value} (h : RV φ v v') : nilness v' = nilness v := by cases h <;> rfl
theorem vtag_rv {v v' : Value} (h : RV φ v v') : vtag v' = vtag v := by cases h <;> rfl
theorem sameKind_rv {D : TypeDesc} {x y x' y' : Value} (hx : RV φ x x') (hy : RV φ y y') : sameKind D x' y' = sameKind D x y := by
  unfold sameKind; rw [vtag_rv hx, vtag_rv hy]

theorem eqIn_ptr {d : Nat} {t e : TypeId} (hD : P.underlying t = some (.pointer e)) {p q : Option Addr} (hab : (p.isNone || q.isNone) = true) : (Op.equalIn (d + 1) t (.pointer p) (.pointer q)).run P w = .ok (p.isNone && q.isNone) w := by
  simp only [Op.equalIn, Sem.run_bind, run_und hD, Result.andThen_ok]
  cases p <;> cases q
  · rfl
  · rfl
  · rfl
  · simp at hab
theorem eqIn_slice {d : Nat} {t e : TypeId} (hD : P.underlying t = some (.slice e)) {p q : Option Addr} {a b a' b' : Nat} (hab : (p.isNone || q.isNone) = true) : (Op.equalIn (d + 1) t (.slice p a b) (.slice q a' b')).run P w = .ok (p.isNone && q.isNone) w := by
  simp only [Op.equalIn, Sem.run_bind, run_und hD, Result.andThen_ok]
  cases p <;> cases q
  · rfl
  · rfl
  · rfl
  · simp at hab
theorem eqIn_map {d : Nat} {t k e : TypeId} (hD : P.underlying t = some (.map k e)) {p q : Option Nat} (hab : (p.isNone || q.isNone) = true) : (Op.equalIn (d + 1) t (.map p) (.map q)).run P w = .ok (p.isNone && q.isNone) w := by
  simp only [Op.equalIn, Sem.run_bind, run_und hD, Result.andThen_ok]
  cases p <;> cases q
  · rfl
  · rfl
  · rfl
  · simp at hab

theorem eqIn_nil {d : Nat} {t : TypeId} {D : TypeDesc} (hD : P.underlying t = some D) {x y : Value} {a b : Bool} (hx : nilness x = some a) (hy : nilness y = some b)
    (hk : sameKind D x y = true) (hab : (a || b) = true) : (Op.equalIn (d + 1) t x y).run P w = .ok (a && b) w := by
  cases D <;> cases x <;> cases y <;> simp only [sameKind, vtag] at hk <;> first
    | (exact absurd hk (by decide))
    | (simp only [nilness, Option.some.injEq] at hx hy; subst hx; subst hy; exact eqIn_ptr hD hab)
    | (simp only [nilness, Option.some.injEq] at hx hy; subst hx; subst hy; exact eqIn_slice hD hab)
    | (simp only [nilness, Option.some.injEq] at hx hy; subst hx; subst hy; exact eqIn_map hD hab)
    | (simp only [nilness, Option.some.injEq] at hx hy; subst hx; subst hy
       simp only [Op.equalIn, Sem.run_bind, run_und hD, Result.andThen_ok]; rfl)

theorem sim_nil {op : BinOp} {neg : Bool} (hop : isEq op = some neg) {t : TypeId} {D : TypeDesc} (hD : P.underlying t = some D) {x y : Value} {a b : Bool}
    (hx : nilness x = some a) (hy : nilness y = some b) (hk : sameKind D x y = true) (hab : (a || b) = true) (ox oy : Operand) :
    (do eqGuard op t ox oy x y; binOp op t x y : Sem Value).run P w = .ok (.bool ((a && b) != neg)) w := by
  have hg : eqGuard op t ox oy x y = pure () := by
    cases D <;> cases x <;> cases y <;> simp only [sameKind, vtag] at hk <;> first
      | (exact absurd hk (by decide))
      | (cases op <;> simp only [isEq] at hop <;> first | (cases hop; done) | (simp [eqGuard]))
  have he := eqIn_nil (P := P) (w := w) (d := 9999) hD hx hy hk hab
  rw [hg]
  have hb : binOp op t x y = (do pure (.bool ((← Op.equal t x y) != neg)) : Sem Value) := by
    cases op <;> simp only [isEq] at hop <;> try (cases hop; done)
    · cases hop
      cases x <;> cases y <;> simp only [nilness] at hx hy <;> first | (cases hx; done) | (cases hy; done) | simp [binOp]
    · cases hop
      cases x <;> cases y <;> simp only [nilness] at hx hy <;> first | (cases hx; done) | (cases hy; done) | simp [binOp]
  rw [hb]
  have he' : (Op.equal t x y).run P w = .ok (a && b) w := he
  simp only [Sem.run_bind, Sem.run_pure, Result.andThen_ok, he']

theorem sim_bin (hok : tb.Ok P) {op : BinOp} {t : TypeId} {ox oy : Operand} {x y x' y' v : Value} (h : binF P tb op t ox oy x y = some v) (hx : RV φ x x') (hy : RV φ y y') :
    ∃ v', (do eqGuard op t ox oy x' y'; binOp op t x' y' : Sem Value).run P w = .ok v' w ∧ RV φ v v' := by
  have fin : ∀ u, (do eqGuard op t ox oy x' y'; binOp op t x' y' : Sem Value).run P w = .ok u w ∧ flat u = true → v = u →
      ∃ v', (do eqGuard op t ox oy x' y'; binOp op t x' y' : Sem Value).run P w = .ok v' w ∧ RV φ v v' := by
    rintro u ⟨h1, h2⟩ rfl; exact ⟨_, h1, flat_rv _ _ h2⟩
  unfold binF at h
  split at h
  · rename_i k a k' b
    cases hx; cases hy
    split at h
    · exact fin _ (sim_shop h t ox oy) rfl
    · exact fin _ (sim_shop h t ox oy) rfl
    · rename_i h1 h2
      split at h
      · rename_i hk; subst hk
        exact fin _ (sim_iop h h1 h2 t ox oy) rfl
      · cases h
  · split at h
    · rename_i hf
      simp only [Bool.and_eq_true] at hf
      have ex := flat_eq _ _ _ hf.1 hx
      have ey := flat_eq _ _ _ hf.2 hy
      subst ex ey
      split at h
      · rename_i u hu
        split at h
        · rename_i hfu
          cases h
          exact fin _ ⟨pureRun_run hu w, hfu⟩ rfl
        · cases h
      · cases h
    · split at h
      · rename_i neg D a b h1 h2 h3 h4
        split at h
        · rename_i hk
          simp only [Bool.and_eq_true] at hk
          cases h
          refine ⟨_, sim_nil h1 (hok.und _ _ h2) ((nilness_rv hx).trans h3) ((nilness_rv hy).trans h4) ((sameKind_rv hx hy).trans hk.1) hk.2 ox oy, .bool _⟩
        · cases h
      · cases h

theorem sim_un {op : UnOp} {x x' v : Value} (h : unF op x = some v) (hx : RV φ x x') : ∃ v', (Op.unary op x').run P w = .ok v' w ∧ RV φ v v' := by
  unfold unF at h
  split at h
  · cases hx; cases h; exact ⟨_, by simp [Op.unary, Op.intArith, wrapF_eq], .int _ _⟩
  · cases hx; cases h; exact ⟨_, by simp [Op.unary], .bool _⟩
  · cases h

end Go.Det
