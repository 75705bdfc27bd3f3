/- Det, part W: what internal/bytealg.Compare answers. -/
import Derived.Test.YtddblfiinmbifaaGreatDetV
import Derived.Lib.BytesEntry
import Derived.Laws.Externs
namespace Go.Det

variable {φ : Ph} {P : Program} {w : World} {σ : St}

def bytesAt (σ : St) (v : Value) : Option (List UInt8) := match v with
  | .slice none _ _ => some []
  | .slice (some ⟨n, o, none⟩) len _ => match ldCells σ n o len with
    | some l => bytesOfCells l
    | none => none
  | _ => none

theorem run_bytesOf (hRH : RH φ σ w) {v v' : Value} {x : List UInt8} (h : bytesAt σ v = some x) (hv : RV φ v v') :
    (Extern.Bytes.bytesOf v').run P w = .ok ⟨x.toArray⟩ w := by
  have rows : ∀ {n o len b : Nat} {d : Nat × Nat} {l : List Value}, φ n = some (b, d) → ldCells σ n o len = some l → bytesOfCells l = some x →
      (Extern.Bytes.loadBytes ⟨b, o + d.1, none⟩ len .empty).run P w = .ok ⟨x.toArray⟩ w := by
    intro n o len b d l hφ hl hx
    obtain ⟨ns, rfl, rfl⟩ := bytes_nums _ _ hx
    have hlen : ns.length = len := by
      unfold ldCells at hl
      split at hl
      · split at hl
        · rename_i h0; subst h0; cases ns <;> simp at hl ⊢
        · dsimp only at hl
          split at hl
          · rename_i h1
            simp only [Option.some.injEq] at hl
            rw [hl] at h1; simpa using h1
          · cases hl
      · cases hl
    have key : ∀ j y, ns[j]? = some y → w.cell? ((⟨b, o + d.1, none⟩ : Addr).add j) = some (.int .u8 y) := by
      intro j y hj
      have hjl : j < ns.length := (List.getElem?_eq_some_iff.1 hj).1
      unfold ldCells at hl
      split at hl
      case h_2 => cases hl
      rename_i cs hc
      split at hl
      · omega
      dsimp only at hl
      split at hl
      case isFalse => cases hl
      rename_i h1
      cases hl' : (cs.drop o).take len with
      | nil => rw [hl'] at h1; simp at h1; omega
      | cons z zs =>
        obtain ⟨c, e, fr, g1, -, g3, g4⟩ := (hRH.cellsOf hc hφ).row (by omega : 0 < len) rfl (by simpa using h1)
        have hll : (cs.drop o).take len = ns.map (Value.int .u8) := by simpa using hl
        rw [hll] at g4
        have g5 := rl_nums g4
        have g6 : ((c.toList.drop (o + d.1)).take len)[j]? = some (.int .u8 y) := by rw [g5]; simp [hj]
        rw [List.getElem?_take, List.getElem?_drop] at g6
        split at g6
        · have e1 : (⟨b, o + d.1, none⟩ : Addr).add j = ⟨b, o + d.1 + j, none⟩ := by unfold Addr.add; split <;> simp_all
          rw [e1]
          simp only [World.cell?, g1]
          simpa using g6
        · cases g6
    have := Lib.run_loadBytesX (P := P) (w := w) ns ⟨b, o + d.1, none⟩ .empty key
    rw [hlen] at this
    rw [this]
    simp [Lib.bytesOf]
  unfold bytesAt at h
  split at h
  · cases hv; cases h; rfl
  · rename_i n o len cap
    split at h
    · rename_i l hl
      cases hv with
      | slice _ _ hφ hc hu => exact rows hφ hl h
      | sliceUnk _ _ _ hφ h0 hc ht => exact rows hφ hl h
      | sliceEmpty a cap k ha =>
        have := ld_zero hl; subst this
        cases h
        rfl
    · cases h
  · cases h

def cmpM (args : List Value) (σ : St) : Option (Value × St) := match args with
  | [a, b] => match bytesAt σ a, bytesAt σ b with
    | some x, some y => some (.int .i64 (Extern.BytealgCompare.cmp ⟨x.toArray⟩ ⟨y.toArray⟩), σ)
    | _, _ => none
  | _ => none

theorem cmpM_ok {f : FuncId} {fn : Func} (hf : P.funcs[f]? = some fn) (hname : (fn.name == "runtime.NumGoroutine") = false)
    (hb : fn.body.isNone = true) (hn : Extern.findNext fn = none) (he : Extern.find fn = some Extern.BytealgCompare.compare) : FunOk P f cmpM := by
  intro args σ v σ' h
  unfold cmpM at h
  split at h
  case h_2 => cases h
  rename_i a b
  split at h
  case h_2 => cases h
  rename_i x y hx hy
  simp only [Option.some.injEq, Prod.mk.injEq] at h
  obtain ⟨rfl, rfl⟩ := h
  refine ⟨Nat.le_refl _, fun r φ w args' o ac K Q hl hH hN hK => ?_⟩
  obtain ⟨as'⟩ := args'
  cases hl with
  | cons h1 hl1 => cases hl1 with
    | cons h2 hl2 => cases hl2 with
      | nil =>
        rename_i a' b'
        have hrun : (Extern.BytealgCompare.compare #[a', b']).run P w = .ok (.int .i64 (Extern.BytealgCompare.cmp ⟨x.toArray⟩ ⟨y.toArray⟩)) w := by
          have hc : Extern.BytealgCompare.compare #[a', b'] = (do pure (goInt (Extern.BytealgCompare.cmp (← Extern.Bytes.bytesOf a') (← Extern.Bytes.bytesOf b')))) := rfl
          rw [hc]
          simp only [Sem.run_bind, run_bytesOf hH hx h1, run_bytesOf hH hy h2, Result.andThen_ok, Sem.run_pure, goInt]
        have hcall := run_callFunc_extern hf hname hb hn he #[a', b'] w
        rw [hrun] at hcall
        have e : ({ toList := [a', b'] } : Array Value) = #[a', b'] := rfl
        rw [e, hcall]
        exact hK φ _ w (.refl hH) (.int _ _)

/-- one oracle -/
def orc1 (k : FuncId) (m : List Value → St → Option (Value × St)) : Orc := fun f => match Nat.beq f k with | true => some m | false => none

theorem orc1_ok {k : FuncId} {m : List Value → St → Option (Value × St)} (h : FunOk P k m) : OrcOk P (orc1 k m) := by
  intro f m' hm
  unfold orc1 at hm
  split at hm
  · rename_i hk
    have := Nat.eq_of_beq_eq_true hk
    subst this
    cases hm
    exact h
  · cases hm

end Go.Det
