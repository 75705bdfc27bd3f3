/- Det, part J: reads, what makes something new, what changes something. -/
import Derived.Test.YtddblfiinmbifaaGreatDetI
import Derived.Laws.BytesString
import Derived.Laws.Append
import Derived.Laws.AppendOwn
namespace Go.Det

variable {φ ψ : Ph} {P : Program} {w w' : World} {σ σ' : St} {tb : Tb}

/-! ## reads -/
theorem bytes_nums : ∀ (l : List Value) (bs : List UInt8), bytesOfCells l = some bs → ∃ ns : List Int, l = ns.map (Value.int .u8) ∧ bs = ns.map fun n => UInt8.ofNat n.toNat := by
  intro l
  induction l with
  | nil => intro bs h; simp [bytesOfCells] at h; subst h; exact ⟨[], rfl, rfl⟩
  | cons v l ih =>
    intro bs h
    unfold bytesOfCells at h
    split at h
    · rename_i e; cases e
    · rename_i m l0 e
      cases e
      split at h
      · rename_i bs0 hb
        cases h
        obtain ⟨ns, rfl, rfl⟩ := ih _ hb
        exact ⟨Int.ofNat m :: ns, rfl, by simp⟩
      · cases h
    · cases h

theorem flatL_map {α : Type} {f : α → Value} (hf : ∀ x, flat (f x) = true) (l : List α) : flatL (l.map f) = true := by
  induction l with
  | nil => rfl
  | cons x l ih => simp only [List.map_cons, flatL, hf, ih, Bool.and_self]

theorem rl_nums {l' : List Value} {k : IntKind} {ns : List Int} (h : RL φ (ns.map (Value.int k)) l') : l' = ns.map (Value.int k) :=
  flatL_eq φ _ _ (flatL_map (fun _ => rfl) ns) h

theorem sim_read (hok : tb.Ok P) (hRH : RH φ σ w) {ρ : Operand → Option Value} {ρ' : Operand → Value} (hρ : ∀ x v, ρ x = some v → RV φ v (ρ' x))
    {o : Oper} {v : Value} (h : readF tb ρ o.op σ = some v) : ∃ v', (execOp ρ' o).run P w = .ok (.value v') w ∧ RV φ v v' := by
  obtain ⟨dst, op, type, pos, after, guard⟩ := o
  have lift : ∀ {s : Sem Value}, (∃ v', s.run P w = .ok v' w ∧ RV φ v v') → ∃ v', (do pure (.value (← s)) : Sem Next).run P w = .ok (.value v') w ∧ RV φ v v' :=
    fun ⟨v', h1, h2⟩ => ⟨v', run_v h1, h2⟩
  dsimp only at h
  cases op <;> simp only [execOp]
  case load t a =>
    refine lift ?_
    simp only [readF] at h
    split at h
    · rename_i p hp; exact sim_ldVar hok hRH h (hρ _ _ hp)
    · cases h
  case convert src dst x =>
    refine lift ?_
    simp only [readF] at h
    split at h
    · rename_i e a len cap h1 h2 h3
      split at h
      · rename_i h4
        have conv : ∀ y, (∀ a l c, y = .slice a l c → (convert src dst y).run P w = (Conv.bytesToString y).run P w) := by
          rintro y a l c rfl
          exact run_convert_bytes_string w src dst e a l c (hok.und _ _ h1) (hok.und _ _ h4) (hok.und _ _ h2)
        have hx := hρ _ _ h3
        generalize ρ' x = x' at hx
        split at h
        · cases h
          cases hx
          exact ⟨.string .empty, by rw [conv _ _ _ _ rfl]; rfl, .string _⟩
        · rename_i n o
          split at h
          · rename_i l hl
            split at h
            · rename_i bs hb
              cases h
              obtain ⟨ns, rfl, rfl⟩ := bytes_nums _ _ hb
              have fin : ∀ (a : Addr) (c : Nat), (loadCells a len).run P w = .ok (ns.map (Value.int .u8)).toArray w →
                  ∃ v', (convert src dst (.slice (some a) len c)).run P w = .ok v' w ∧ RV φ (.string ⟨(ns.map fun n => UInt8.ofNat n.toNat).toArray⟩) v' := by
                intro a c hld
                refine ⟨.string ⟨(ns.map fun n => UInt8.ofNat n.toNat).toArray⟩, ?_, .string _⟩
                rw [conv _ _ _ _ rfl, run_bytesToString w a len c ns hld]
                have key : ∀ (ns : List Int) (s : ByteArray), ns.foldl (fun r n => r.push (UInt8.ofNat n.toNat)) s = ⟨s.data ++ (ns.map fun n => UInt8.ofNat n.toNat).toArray⟩ := by
                  intro ns
                  induction ns with
                  | nil => intro s; simp
                  | cons n ns ih =>
                    intro s
                    rw [List.foldl_cons, ih]
                    congr 1
                    simp [ByteArray.push]
                rw [key]
                have e0 : ByteArray.empty.data = #[] := rfl
                rw [e0, Array.empty_append]
              cases hx with
              | slice _ _ hφ hc hu =>
                obtain ⟨l', g1, g2⟩ := sim_ld (P := P) hRH hl hφ
                rw [rl_nums g2] at g1
                exact fin _ _ g1
              | sliceUnk _ _ _ hφ h0 hc ht =>
                obtain ⟨l', g1, g2⟩ := sim_ld (P := P) hRH hl hφ
                rw [rl_nums g2] at g1
                exact fin _ _ g1
              | sliceEmpty a c k ha =>
                refine fin _ _ ?_
                have : ns = [] := by
                  unfold ldCells at hl
                  split at hl
                  · simp at hl; exact hl
                  · cases hl
                subst this
                rfl
            · cases h
          · cases h
        · cases h
      · cases h
    · cases h
  all_goals (simp [readF] at h)

end Go.Det
