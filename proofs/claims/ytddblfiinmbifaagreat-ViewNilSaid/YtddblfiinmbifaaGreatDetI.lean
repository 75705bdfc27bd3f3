/- Det, part I: all pure operations together. -/
import Derived.Test.YtddblfiinmbifaaGreatDetH
namespace Go.Det

variable {φ ψ : Ph} {P : Program} {w w' : World} {σ σ' : St} {tb : Tb}

theorem run_v {s : Sem Value} {v : Value} (h : s.run P w = .ok v w') : (do pure (.value (← s)) : Sem Next).run P w = .ok (.value v) w' := by
  simp only [Sem.run_bind, h, Result.andThen_ok, Sem.run_pure]

theorem natOf_rv {i i' : Value} {m : Nat} (h : natOf i = some m) (hi : RV φ i i') : ∃ k, i' = .int k m := by
  unfold natOf at h
  split at h
  · cases h; cases hi; exact ⟨_, rfl⟩
  · cases h

theorem sim_index (hok : tb.Ok P) {t : TypeId} {x ix x' ix' v : Value} {n : Nat} {o : Nat} {m len : Nat} {elem : TypeId} {cap : Nat}
    (hx' : x = .slice (some ⟨n, o, none⟩) len cap) (hD : P.underlying t = some (.slice elem)) (hm : natOf ix = some m) (hlt : m < len)
    {ti : TI} (hti : tb.inf elem = some ti) (hx : RV φ x x') (hi : RV φ ix ix') (hv : v = .pointer (some ⟨n, o + m * ti.size, none⟩)) :
    ∃ v', (Instr.indexAt t x' ix').run P w = .ok v' w ∧ RV φ v v' := by
  subst hx' hv
  obtain ⟨k, rfl⟩ := natOf_rv hm hi
  obtain ⟨i, hi, hs, -⟩ := hok.inf _ _ hti
  have conc : ∀ (b : Nat) (d : Nat × Nat) (cap' : Nat), φ n = some (b, d) →
      ∃ v', (Instr.indexAt t (.slice (some ⟨b, o + d.1, none⟩) len cap') (.int k m)).run P w = .ok v' w ∧ RV φ (.pointer (some ⟨n, o + m * ti.size, none⟩)) v' := by
    intro b d cap' hφ
    refine ⟨.pointer (some ⟨b, (o + m * ti.size) + d.1, none⟩), ?_, .ptr hφ⟩
    simp only [Instr.indexAt, asIntOf, Sem.run_bind, Sem.run_pure, Result.andThen_ok, run_und hD]
    rw [if_pos (by omega)]
    simp only [Sem.run_bind, run_sizeOf hi, Result.andThen_ok, Sem.run_pure, Int.toNat_natCast, add_none, hs]
    congr 4; omega
  cases hx with
  | slice _ _ hφ hc hu => exact conc _ _ _ hφ
  | sliceUnk _ _ _ hφ h0 hc ht => exact conc _ _ _ hφ
  | sliceEmpty => omega

theorem sim_minmax {l l' : List Value} {k : IntKind} {a : Int} {v : Value} {f : Int → Int → Int} {g : Value → Value → Option Value} {g' : Value → Value → Sem Value}
    (hg : ∀ x y u, g x y = some u → ∃ k k' p q, x = .int k p ∧ y = .int k' q ∧ u = .int k (f p q))
    (hg' : ∀ k k' p q, g' (.int k p) (.int k' q) = pure (.int k (f p q)))
    (hl : RL φ l l') (h : l.foldlM g (.int k a) = some v) : (l'.foldlM g' (.int k a)).run P w = .ok v w ∧ flat v = true := by
  induction l generalizing l' a with
  | nil =>
    cases hl
    simp at h; subst h
    exact ⟨by simp, rfl⟩
  | cons x l ih =>
    cases hl with
    | cons h1 h2 =>
      simp only [List.foldlM_cons, Option.bind_eq_bind] at h
      cases hgx : g (.int k a) x with
      | none => rw [hgx] at h; simp at h
      | some u =>
        rw [hgx] at h
        obtain ⟨k1, k2, p, q, e1, e2, e3⟩ := hg _ _ _ hgx
        cases e1; subst e2 e3
        cases h1
        simp only [Option.bind_some] at h
        obtain ⟨g1, g2⟩ := ih h2 h
        refine ⟨?_, g2⟩
        simp only [List.foldlM_cons, hg', Sem.run_bind, Sem.run_pure, Result.andThen_ok]
        exact g1

theorem toList_map (a : Array Operand) (f : Operand → Value) : (a.map f).toList = a.toList.map f := by simp

theorem sim_pure (hok : tb.Ok P) {ρ : Operand → Option Value} {ρ' : Operand → Value} (hρ : ∀ x v, ρ x = some v → RV φ v (ρ' x))
    {o : Oper} {v : Value} (h : pureF P tb ρ o.op = some v) : ∃ v', (execOp ρ' o).run P w = .ok (.value v') w ∧ RV φ v v' := by
  obtain ⟨dst, op, type, pos, after, guard⟩ := o
  have lift : ∀ {s : Sem Value}, (∃ v', s.run P w = .ok v' w ∧ RV φ v v') → ∃ v', (do pure (.value (← s)) : Sem Next).run P w = .ok (.value v') w ∧ RV φ v v' :=
    fun ⟨v', h1, h2⟩ => ⟨v', run_v h1, h2⟩
  dsimp only at h
  cases op <;> simp only [execOp]
  case move x => exact ⟨_, rfl, hρ _ _ h⟩
  case assign x => exact ⟨_, rfl, hρ _ _ h⟩
  case pick c a b =>
    simp only [pureF] at h
    split at h
    · rename_i t hc
      split at h
      · rename_i va vb ha hb
        cases h
        have hc' := hρ _ _ hc
        generalize ρ' c = c' at hc'
        cases hc'
        refine ⟨if t then ρ' a else ρ' b, by simp [asBool], ?_⟩
        cases t
        · exact hρ _ _ hb
        · exact hρ _ _ ha
      · cases h
    · cases h
  case build t parts => exact lift (sim_build hok hρ h)
  case nilCheck x =>
    simp only [pureF] at h
    split at h
    · rename_i a hx
      cases h
      have hx' := hρ _ _ hx
      cases hxx : ρ' x <;> rw [hxx] at hx' <;> first | (cases hx'; done) | skip
      rename_i b
      cases b with
      | none => cases hx'
      | some b => exact ⟨_, rfl, hx'⟩
    · rename_i f fi ca hx
      cases h
      have hx' := hρ _ _ hx
      cases hxx : ρ' x <;> rw [hxx] at hx' <;> first | (cases hx'; done) | skip
      cases hx' with
      | func _ hy h1 h2 => exact ⟨_, rfl, .func _ hy h1 h2⟩
    · cases h
  case binOp op t x y _ =>
    simp only [pureF] at h
    split at h
    · rename_i a b ha hb
      exact lift (sim_bin hok h (hρ _ _ ha) (hρ _ _ hb))
    · cases h
  case unOp op _ x =>
    simp only [pureF] at h
    split at h
    · rename_i a ha; exact lift (sim_un h (hρ _ _ ha))
    · cases h
  case convert src dst x =>
    refine lift ?_
    simp only [pureF] at h
    split at h
    · rename_i d1 k k' n h1 h2 h3
      cases h
      have hx := hρ _ _ h3
      generalize ρ' x = x' at hx
      cases hx
      refine ⟨.int k (k.wrap n), ?_, by rw [wrapF_eq]; exact .int _ _⟩
      simp only [convert, Sem.run_bind, run_und (hok.und _ _ h1), run_und (hok.und _ _ h2), Result.andThen_ok]
      rfl
    · rename_i d1 s h1 h2 h3
      cases h
      have hx := hρ _ _ h3
      generalize ρ' x = x' at hx
      cases hx
      refine ⟨.string s, ?_, .string _⟩
      simp only [convert, Sem.run_bind, run_und (hok.und _ _ h1), run_und (hok.und _ _ h2), Result.andThen_ok]
      rfl
    · cases h
  case makeInterface t x =>
    refine lift ?_
    simp only [pureF] at h
    split at h
    · cases h
    · rename_i D u hn h1 h2
      cases h
      refine ⟨_, ?_, .iface t (hρ _ _ h2)⟩
      cases D <;> first
        | (exact (hn _ rfl).elim)
        | (simp only [Instr.makeInterface, Sem.run_bind, run_und (hok.und _ _ h1), Result.andThen_ok]; rfl)
    · cases h
  case makeFunc fn first captured =>
    refine lift ?_
    simp only [pureF] at h
    split at h
    · rename_i f a b ha hb
      cases h
      refine ⟨_, rfl, .func _ (by intro l; simp) ?_ ?_⟩
      · rw [toList_map]; exact mapM_rl hρ _ _ ha
      · rw [toList_map]; exact mapM_rl hρ _ _ hb
    · cases h
  case slice t x lo hi mx =>
    cases mx with
    | none => exact lift (sim_slice hok hρ h)
    | some m => simp [pureF] at h
  case fieldAddr s x f =>
    refine lift ?_
    simp only [pureF] at h
    split at h
    · rename_i fs n o h1 h2
      split at h
      · rename_i fd hf
        split at h
        · rename_i ti hti
          split at h
          · cases h
          · rename_i hsz
            cases h
            obtain ⟨i, hi, hs, -⟩ := hok.inf _ _ hti
            have hx := hρ _ _ h2
            generalize ρ' x = x' at hx
            cases hx with
            | ptr hφ =>
              rename_i b d
              refine ⟨.pointer (some ⟨b, (o + fd.offset) + d.1, none⟩), ?_, .ptr hφ⟩
              simp only [Instr.fieldAt, Sem.run_bind, run_und (hok.und _ _ h1), Result.andThen_ok, hf, Instr.sureAddr, Sem.run_pure, fieldPlace, run_sizeOf hi, hs]
              rw [if_neg hsz]
              simp only [Sem.run_pure, Result.andThen_ok, add_none]
              congr 4; omega
        · cases h
      · cases h
    · cases h
  case field s x f =>
    refine lift ?_
    simp only [pureF] at h
    split at h
    · rename_i fs cs h1 h2
      split at h
      · rename_i fd hf
        have hx := hρ _ _ h2
        generalize ρ' x = x' at hx
        cases hx with
        | agg hcs =>
          obtain ⟨v', g1, g2⟩ := sim_part (w := w) hok h hcs
          refine ⟨v', ?_, g2⟩
          simp only [Instr.field, Sem.run_bind, run_und (hok.und _ _ h1), Result.andThen_ok, hf, asAgg, Sem.run_pure, g1]
      · cases h
    · cases h
  case indexAddr t x ix =>
    refine lift ?_
    simp only [pureF] at h
    split at h
    · rename_i elem n o len cap i h1 h2 h3
      split at h
      · rename_i m ti h4 h5
        split at h
        · rename_i hlt
          cases h
          exact sim_index (φ := φ) hok rfl (hok.und _ _ h1) h4 hlt h5 (hρ _ _ h2) (hρ _ _ h3) rfl
        · cases h
      · cases h
    · rename_i len elem n o i h1 h2 h3
      split at h
      · rename_i m ti h4 h5
        split at h
        · rename_i hlt
          cases h
          obtain ⟨k, hk⟩ := natOf_rv h4 (hρ _ _ h3)
          obtain ⟨ii, hi, hs, -⟩ := hok.inf _ _ h5
          have hx := hρ _ _ h2
          generalize ρ' x = x' at hx
          cases hx with
          | ptr hφ =>
            rename_i b d
            refine ⟨.pointer (some ⟨b, (o + m * ti.size) + d.1, none⟩), ?_, .ptr hφ⟩
            rw [hk]
            simp only [Instr.indexAt, asIntOf, Sem.run_bind, Sem.run_pure, Result.andThen_ok, run_und (hok.und _ _ h1), Instr.sureAddr]
            rw [if_pos (by omega)]
            simp only [Sem.run_bind, run_sizeOf hi, Result.andThen_ok, Sem.run_pure, Int.toNat_natCast, add_none, hs]
            congr 4; omega
        · cases h
      · cases h
    · cases h
  case index t x ix =>
    refine lift ?_
    simp only [pureF] at h
    split at h
    · rename_i len elem cs i h1 h2 h3
      split at h
      · rename_i m ti h4 h5
        split at h
        · rename_i hlt
          obtain ⟨k, hk⟩ := natOf_rv h4 (hρ _ _ h3)
          obtain ⟨ii, hi, hs, -⟩ := hok.inf _ _ h5
          have hx := hρ _ _ h2
          generalize ρ' x = x' at hx
          cases hx with
          | agg hcs =>
            obtain ⟨v', g1, g2⟩ := sim_part (w := w) hok h hcs
            refine ⟨v', ?_, g2⟩
            rw [hk]
            simp only [Instr.index, asIntOf, Sem.run_bind, Sem.run_pure, Result.andThen_ok, run_und (hok.und _ _ h1)]
            rw [if_pos (by omega)]
            simp only [Sem.run_bind, run_sizeOf hi, Result.andThen_ok, Int.toNat_natCast, hs]
            exact g1
        · cases h
      · cases h
    · rename_i s i h1 h2 h3
      split at h
      · rename_i m h4
        split at h
        · rename_i b hb
          cases h
          obtain ⟨k, hk⟩ := natOf_rv h4 (hρ _ _ h3)
          have hx := hρ _ _ h2
          generalize ρ' x = x' at hx
          cases hx
          refine ⟨.int .u8 b.toNat, ?_, .int _ _⟩
          rw [hk]
          have hb' : s[m]? = some b := by
            rw [Array.getElem?_toList] at hb
            obtain ⟨hlt, he⟩ := Array.getElem?_eq_some_iff.1 hb
            rw [getElem?_pos s m (by simpa using hlt)]
            exact congrArg some he
          simp only [Instr.index, asIntOf, Sem.run_bind, Sem.run_pure, Result.andThen_ok, run_und (hok.und _ _ h1)]
          rw [if_pos (by omega)]
          simp only [Int.toNat_natCast, hb', Sem.run_pure]
        · cases h
      · cases h
    · cases h
  case extract t i =>
    refine lift ?_
    simp only [pureF] at h
    split at h
    · rename_i vs ht
      have hx := hρ _ _ ht
      generalize ρ' t = x' at hx
      cases hx with
      | tuple hcs =>
        obtain ⟨v', g1, g2⟩ := hcs.get h
        rw [Array.getElem?_toList] at g1
        refine ⟨v', ?_, g2⟩
        simp only [Instr.extract, g1, Sem.run_pure]
    · cases h
  case call c =>
    obtain ⟨callee, args, argTypes⟩ := c
    cases callee <;> try (simp [pureF] at h; done)
    rename_i b
    cases b <;> try (simp [pureF] at h; done)
    case len =>
      simp only [pureF] at h
      split at h
      · rename_i x t ha ht
        have hl := mapM_rl hρ _ _ ha
        rw [← toList_map] at hl
        simp only [resolve, Sem.run_bind, Sem.run_pure, Result.andThen_ok, invoke, builtin]
        suffices hs : ∃ v', (Builtin.len_ argTypes type (args.map ρ')).run P w = .ok v' w ∧ RV φ v v' by
          obtain ⟨v', g1, g2⟩ := hs
          exact ⟨v', by simp only [g1, Result.andThen_ok], g2⟩
        generalize args.map ρ' = A' at hl
        obtain ⟨l'⟩ := A'
        simp only at hl
        cases hl with
        | cons hx hnil =>
          cases hnil
          simp only [Builtin.len_, ht]
          split at h
          · rename_i s h1
            cases h; cases hx
            refine ⟨_, ?_, .int _ _⟩
            simp only [List.size_toArray, List.length_cons, List.getElem?_toArray, List.getElem?_cons_zero, Sem.run_bind, run_und (hok.und _ _ h1), Result.andThen_ok]
            rfl
          · rename_i n _ h1
            cases h
            refine ⟨_, ?_, .int _ _⟩
            simp only [List.size_toArray, List.length_cons, List.getElem?_toArray, List.getElem?_cons_zero, Sem.run_bind, run_und (hok.und _ _ h1), Result.andThen_ok]
            rfl
          · rename_i e a n c h1
            cases h
            cases hx <;>
            · refine ⟨_, ?_, .int _ _⟩
              simp only [List.size_toArray, List.length_cons, List.getElem?_toArray, List.getElem?_cons_zero, Sem.run_bind, run_und (hok.und _ _ h1), Result.andThen_ok]
              rfl
          · rename_i k e h1
            cases h; cases hx
            refine ⟨_, ?_, .int _ _⟩
            simp only [List.size_toArray, List.length_cons, List.getElem?_toArray, List.getElem?_cons_zero, Sem.run_bind, run_und (hok.und _ _ h1), Result.andThen_ok]
            rfl
          · cases h
      · cases h
    case max =>
      simp only [pureF] at h
      split at h
      · rename_i k a rest ha
        have hl := mapM_rl hρ _ _ ha
        rw [← toList_map] at hl
        simp only [resolve, Sem.run_bind, Sem.run_pure, Result.andThen_ok, invoke, builtin, Builtin.max_]
        generalize args.map ρ' = A' at hl
        obtain ⟨l'⟩ := A'
        simp only at hl
        cases hl with
        | cons hx hr =>
          cases hx
          obtain ⟨g1, g2⟩ := sim_minmax (P := P) (w := w) (f := fun x y => if y > x then y else x) (g' := Builtin.max2)
            (by
              intro x y u hu
              split at hu
              · cases hu; exact ⟨_, _, _, _, rfl, rfl, rfl⟩
              · cases hu) (fun _ _ _ _ => rfl) hr h
          refine ⟨v, ?_, flat_rv _ _ g2⟩
          simp only [g1, Result.andThen_ok]
      · cases h
    case min =>
      simp only [pureF] at h
      split at h
      · rename_i k a rest ha
        have hl := mapM_rl hρ _ _ ha
        rw [← toList_map] at hl
        simp only [resolve, Sem.run_bind, Sem.run_pure, Result.andThen_ok, invoke, builtin, Builtin.min_]
        generalize args.map ρ' = A' at hl
        obtain ⟨l'⟩ := A'
        simp only at hl
        cases hl with
        | cons hx hr =>
          cases hx
          obtain ⟨g1, g2⟩ := sim_minmax (P := P) (w := w) (f := fun x y => if y < x then y else x) (g' := Builtin.min2)
            (by
              intro x y u hu
              split at hu
              · cases hu; exact ⟨_, _, _, _, rfl, rfl, rfl⟩
              · cases hu) (fun _ _ _ _ => rfl) hr h
          refine ⟨v, ?_, flat_rv _ _ g2⟩
          simp only [g1, Result.andThen_ok]
      · cases h
  all_goals (simp [pureF] at h)

end Go.Det
