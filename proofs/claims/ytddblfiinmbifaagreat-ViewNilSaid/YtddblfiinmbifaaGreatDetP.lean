/- Det, part P: operations look at their operands alone. -/
import Derived.Test.YtddblfiinmbifaaGreatDetO
namespace Go.Det

variable {P : Program} {tb : Tb} {call : CallF} {ρ ρ₂ : Operand → Option Value} {σ : St}

theorem mapM_same {l : List Operand} (h : ∀ x ∈ l, ρ x = ρ₂ x) : l.mapM ρ = l.mapM ρ₂ := by
  induction l with
  | nil => rfl
  | cons x l ih =>
    simp only [List.mapM_cons]
    rw [h x (by simp), ih fun y hy => h y (by simp [hy])]

theorem parts_same {l : List (Nat × Operand)} (h : ∀ x ∈ l, ρ x.2 = ρ₂ x.2) : l.mapM (opPart ρ) = l.mapM (opPart ρ₂) := by
  induction l with
  | nil => rfl
  | cons x l ih =>
    simp only [List.mapM_cons]
    rw [ih fun y hy => h y (by simp [hy])]
    have : opPart ρ x = opPart ρ₂ x := by simp only [opPart]; rw [h x (by simp)]
    rw [this]

theorem ov_same {o : Option Operand} (h : ∀ x, o = some x → ρ x = ρ₂ x) : ov ρ o = ov ρ₂ o := by
  cases o with
  | none => rfl
  | some x => simp only [ov]; rw [h x rfl]

theorem pureF_same {op : Op} (h : ∀ x ∈ op.operands, ρ x = ρ₂ x) : pureF P tb ρ op = pureF P tb ρ₂ op := by
  cases op
  case move x => exact h x (by simp [Op.operands])
  case assign x => exact h x (by simp [Op.operands])
  case pick c a b => simp only [pureF]; rw [h c (by simp [Op.operands]), h a (by simp [Op.operands]), h b (by simp [Op.operands])]
  case build t parts =>
    simp only [pureF]
    rw [parts_same (l := parts.toList) fun x hx => h x.2 (by simp [Op.operands]; exact ⟨x.1, by simpa using hx⟩)]
  case nilCheck x => simp only [pureF]; rw [h x (by simp [Op.operands])]
  case binOp op t x y u => simp only [pureF]; rw [h x (by simp [Op.operands]), h y (by simp [Op.operands])]
  case unOp op t x => simp only [pureF]; rw [h x (by simp [Op.operands])]
  case convert s d x => simp only [pureF]; rw [h x (by simp [Op.operands])]
  case makeInterface t x => simp only [pureF]; rw [h x (by simp [Op.operands])]
  case makeFunc fn first captured =>
    simp only [pureF]
    rw [mapM_same (l := first.toList) fun x hx => h x (by simp [Op.operands]; exact .inl (by simpa using hx)), mapM_same (l := captured.toList) fun x hx => h x (by simp [Op.operands]; exact .inr (by simpa using hx))]
  case fieldAddr s x f => simp only [pureF]; rw [h x (by simp [Op.operands])]
  case field s x f => simp only [pureF]; rw [h x (by simp [Op.operands])]
  case indexAddr t x ix => simp only [pureF]; rw [h x (by simp [Op.operands]), h ix (by simp [Op.operands])]
  case index t x ix => simp only [pureF]; rw [h x (by simp [Op.operands]), h ix (by simp [Op.operands])]
  case extract x i => simp only [pureF]; rw [h x (by simp [Op.operands])]
  case slice t x lo hi mx =>
    cases mx with
    | some m => simp [pureF]
    | none =>
      simp only [pureF]
      have e1 := ov_same (ρ := ρ) (ρ₂ := ρ₂) (o := lo) fun y hy => h y (by subst hy; simp [Op.operands])
      have e2 := ov_same (ρ := ρ) (ρ₂ := ρ₂) (o := hi) fun y hy => h y (by subst hy; simp [Op.operands])
      have e3 := h x (by simp [Op.operands])
      change (match ov ρ lo, ov ρ hi with | some vlo, some vhi => _ | _, _ => none) = (match ov ρ₂ lo, ov ρ₂ hi with | some vlo, some vhi => _ | _, _ => none)
      rw [e1, e2]
      simp only [e3]
  case call c =>
    obtain ⟨callee, args, argTypes⟩ := c
    have ha : args.toList.mapM ρ = args.toList.mapM ρ₂ := mapM_same fun x hx => h x (by simp [Op.operands, Call.operands]; exact .inr (by simpa using hx))
    cases callee <;> try (simp [pureF]; done)
    rename_i b
    cases b <;> try (simp [pureF]; done)
    all_goals (simp only [pureF]; rw [ha])
  all_goals simp [pureF]

theorem readF_same {op : Op} (h : ∀ x ∈ op.operands, ρ x = ρ₂ x) : readF tb ρ op σ = readF tb ρ₂ op σ := by
  cases op
  case load t a => simp only [readF]; rw [h a (by simp [Op.operands])]
  case convert s d x => simp only [readF]; rw [h x (by simp [Op.operands])]
  all_goals simp [readF]

theorem allocF_same {op : Op} (h : ∀ x ∈ op.operands, ρ x = ρ₂ x) : allocF tb ρ op σ = allocF tb ρ₂ op σ := by
  cases op
  case box t x => simp only [allocF]; rw [h x (by simp [Op.operands])]
  case buildSlice t n parts =>
    simp only [allocF]
    rw [parts_same (l := parts.toList) fun x hx => h x.2 (by simp [Op.operands]; exact ⟨x.1, by simpa using hx⟩)]
  case makeSlice t l c => simp only [allocF]; rw [h l (by simp [Op.operands]), h c (by simp [Op.operands])]
  case convert s d x => simp only [allocF]; rw [h x (by simp [Op.operands])]
  case makeMap t r => cases r <;> simp [allocF]
  all_goals simp [allocF]

theorem actF_same {op : Op} (h : ∀ x ∈ op.operands, ρ x = ρ₂ x) : actF tb ρ op σ = actF tb ρ₂ op σ := by
  cases op
  case store t a x => simp only [actF]; rw [h a (by simp [Op.operands]), h x (by simp [Op.operands])]
  case convert s d x => simp only [actF]; rw [h x (by simp [Op.operands])]
  case call c =>
    obtain ⟨callee, args, argTypes⟩ := c
    have ha : args.toList.mapM ρ = args.toList.mapM ρ₂ := mapM_same fun x hx => h x (by simp [Op.operands, Call.operands]; exact .inr (by simpa using hx))
    cases callee <;> try (simp [actF]; done)
    rename_i b
    cases b <;> try (simp [actF]; done)
    all_goals (simp only [actF]; rw [ha])
  all_goals simp [actF]

theorem target_same {op : Op} (h : ∀ x ∈ op.operands, ρ x = ρ₂ x) : target ρ op = target ρ₂ op := by
  cases op
  case call c =>
    obtain ⟨callee, args, argTypes⟩ := c
    have ha : args.toList.mapM ρ = args.toList.mapM ρ₂ := mapM_same fun x hx => h x (by simp [Op.operands, Call.operands]; exact .inr (by simpa using hx))
    cases callee <;> try (simp [target]; done)
    simp only [target]
    rw [ha, h _ (by simp [Op.operands, Call.operands])]
  all_goals simp [target]

theorem execO_same {op : Op} (h : ∀ x ∈ op.operands, ρ x = ρ₂ x) : execO P tb call ρ op σ = execO P tb call ρ₂ op σ := by
  unfold execO
  rw [pureF_same h, readF_same h, allocF_same h, actF_same h, target_same h]

end Go.Det
