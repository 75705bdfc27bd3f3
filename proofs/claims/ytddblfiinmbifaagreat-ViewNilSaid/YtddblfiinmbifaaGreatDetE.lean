/- Det, part E: steps that write, make or rename rows. -/
import Derived.Test.YtddblfiinmbifaaGreatDetD
namespace Go.Det

variable {φ ψ : Ph} {P : Program} {w w' : World} {σ σ' : St}

def ext (φ : Ph) (n : Nat) (x : Nat × (Nat × Nat)) : Ph := fun m => if m = n then some x else φ m

theorem ext_le {n : Nat} {x : Nat × (Nat × Nat)} (h : φ n = none) : PhLe φ (ext φ n x) := by
  intro m y hm
  unfold ext
  by_cases e : m = n
  · subst e; rw [h] at hm; cases hm
  · rw [if_neg e]; exact hm
theorem ext_self (n : Nat) (x : Nat × (Nat × Nat)) : ext φ n x n = some x := by simp [ext]
theorem ext_ne {n m : Nat} (x : Nat × (Nat × Nat)) (h : m ≠ n) : ext φ n x m = φ m := by simp [ext, h]

theorem with_get (n m : Nat) (o : Option Ob) : (σ.with n o).hp.get m = if m = n then o else σ.hp.get m := Tr.get_set _ _ _ _
theorem new_get (B : Ob) (m : Nat) : (σ.new B).hp.get m = if m = σ.next then some B else σ.hp.get m := Tr.get_set _ _ _ _

theorem RH.live_lt (h : RH φ σ w) {n : Nat} {B : Ob} (hB : σ.hp.get n = some B) : n < σ.next := by
  rcases Nat.lt_or_ge n σ.next with h' | h'
  · exact h'
  · rw [h.fresh n h'] at hB; cases hB

theorem post_still (h : RH φ σ w) (hh : w'.heap = w.heap) (h1 : w'.os = w.os) (h2 : w'.output = w.output) (h3 : w'.tape = w.tape) : Post φ σ w φ σ w' where
  le := .refl _
  dom _ _ := rfl
  next := Nat.le_refl _
  rh := { blk := fun n B b d hB hφ => (h.blk n B b d hB hφ).congr (by rw [hh]), inj := h.inj, fresh := h.fresh, lt := fun n b d hφ => by rw [hh]; exact h.lt n b d hφ }
  conc _ _ _ := by rw [hh]
  abs _ _ _ := rfl
  dead _ _ h := h
  newb n b d h1 h2 := by rw [h1] at h2; cases h2
  size := by rw [hh]; exact Nat.le_refl _
  os := h1
  output := h2
  tape := h3

theorem post_upd (h : RH φ σ w) {n b : Nat} {d : Nat × Nat} {B B' : Ob} {o : Obj} (hB : σ.hp.get n = some B) (hφ : φ n = some (b, d)) (hu : Upd w b o w')
    (hR : RB φ w' b d B') : Post φ σ w φ (σ.with n (some B')) w' where
  le := .refl _
  dom _ _ := rfl
  next := Nat.le_refl _
  rh := by
    have hlt := h.live_lt hB
    refine { blk := ?_, inj := ?_, fresh := ?_, lt := ?_ }
    · intro m C b' d' hC hm
      rw [with_get] at hC
      by_cases e : m = n
      · subst e; rw [if_pos rfl] at hC; cases hC; rw [hφ] at hm; cases hm; exact hR
      · rw [if_neg e] at hC
        refine (h.blk m C b' d' hC hm).congr (hu.there b' ?_)
        intro e'; subst e'; exact e (h.inj _ _ _ _ _ _ _ hC hB hm hφ)
    · intro m m' C C' b' d1 d2 h1 h2 h3 h4
      rw [with_get] at h1 h2
      have l1 : ∃ C, σ.hp.get m = some C := by
        by_cases e : m = n
        · exact ⟨B, e ▸ hB⟩
        · rw [if_neg e] at h1; exact ⟨_, h1⟩
      have l2 : ∃ C, σ.hp.get m' = some C := by
        by_cases e : m' = n
        · exact ⟨B, e ▸ hB⟩
        · rw [if_neg e] at h2; exact ⟨_, h2⟩
      obtain ⟨_, l1⟩ := l1
      obtain ⟨_, l2⟩ := l2
      exact h.inj _ _ _ _ _ _ _ l1 l2 h3 h4
    · intro m hm
      rw [with_get, if_neg (by have : σ.next ≤ m := hm; omega)]
      exact h.fresh m hm
    · intro m b' d' hm; rw [hu.size]; exact h.lt m b' d' hm
  conc b' _ hd := hu.there b' fun e => by subst e; have := hd n d hφ; rw [hB] at this; cases this
  abs m _ hm := by
    rw [with_get, if_neg]
    intro e; subst e; rw [hφ] at hm; cases hm
  dead m _ hm := by
    rw [with_get, if_neg]
    · exact hm
    · intro e; subst e; rw [hB] at hm; cases hm
  newb n b d h1 h2 := by rw [h1] at h2; cases h2
  size := by rw [hu.size]; exact Nat.le_refl _
  os := hu.os
  output := hu.output
  tape := hu.tape

theorem post_new (h : RH φ σ w) (hN : φ σ.next = none) {B : Ob} {tot : Nat} (hsz : w'.heap.size = w.heap.size + 1) (old : ∀ b, b < w.heap.size → w'.heap[b]? = w.heap[b]?) (h1 : w'.os = w.os) (h2 : w'.output = w.output) (h3 : w'.tape = w.tape)
    (hR : RB (ext φ σ.next (w.heap.size, (0, tot))) w' w.heap.size (0, tot) B) : Post φ σ w (ext φ σ.next (w.heap.size, (0, tot))) (σ.new B) w' := by
  exact {
    le := ext_le hN
    dom := fun n hn => by
      apply ext_ne
      rcases hn with hn | hn
      · omega
      · simp only [St.new] at hn; omega
    next := Nat.le_succ _
    rh := by
      refine { blk := ?_, inj := ?_, fresh := ?_, lt := ?_ }
      · intro m C b d hC hm
        rw [new_get] at hC
        by_cases e : m = σ.next
        · subst e; rw [if_pos rfl] at hC; cases hC; rw [ext_self] at hm; cases hm; exact hR
        · rw [if_neg e] at hC; rw [ext_ne _ e] at hm
          exact ((h.blk m C b d hC hm).congr (old b (h.lt _ _ _ hm))).mono (ext_le hN)
      · intro m m' C C' b d1 d2 g1 g2 g3 g4
        rw [new_get] at g1 g2
        by_cases e : m = σ.next
        · by_cases e' : m' = σ.next
          · rw [e, e']
          · subst e; rw [ext_self] at g3; cases g3; rw [ext_ne _ e'] at g4; have := h.lt _ _ _ g4; omega
        · by_cases e' : m' = σ.next
          · subst e'; rw [ext_self] at g4; cases g4; rw [ext_ne _ e] at g3; have := h.lt _ _ _ g3; omega
          · rw [if_neg e] at g1; rw [if_neg e'] at g2; rw [ext_ne _ e] at g3; rw [ext_ne _ e'] at g4
            exact h.inj _ _ _ _ _ _ _ g1 g2 g3 g4
      · intro m hm
        simp only [St.new] at hm
        rw [new_get, if_neg (by omega)]
        exact h.fresh m (by omega)
      · intro m b d hm
        rw [hsz]
        by_cases e : m = σ.next
        · subst e; rw [ext_self] at hm; cases hm; omega
        · rw [ext_ne _ e] at hm; have := h.lt _ _ _ hm; omega
    conc := fun b hb _ => old b hb
    abs := fun n hn _ => by rw [new_get, if_neg (by omega)]
    dead := fun n hn hg => by rw [new_get, if_neg (by omega)]; exact hg
    newb := fun n b d hn hn' => by
      by_cases e : n = σ.next
      · subst e; rw [ext_self] at hn'; cases hn'; exact .inl (Nat.le_refl _)
      · rw [ext_ne _ e, hn] at hn'; cases hn'
    size := by rw [hsz]; omega
    os := h1
    output := h2
    tape := h3 }

theorem push_old (w : World) (o : Obj) : ∀ b, b < w.heap.size → (w.heap.push o)[b]? = w.heap[b]? := by
  intro b hb; rw [Array.getElem?_push]; rw [if_neg (by omega)]
theorem push_new (w : World) (o : Obj) : (w.heap.push o)[w.heap.size]? = some o := by simp

theorem post_rename (h : RH φ σ w) (hN : φ σ.next = none) {n b : Nat} {d d' : Nat × Nat} {B B' : Ob} {o : Obj} (hB : σ.hp.get n = some B) (hφ : φ n = some (b, d)) (hu : Upd w b o w')
    (hR : RB φ w' b d' B') : Post φ σ w (ext φ σ.next (b, d')) ((σ.with n none).new B') w' := by
  have hlt := h.live_lt hB
  have hget : ∀ m, ((σ.with n none).new B').hp.get m = if m = σ.next then some B' else if m = n then none else σ.hp.get m := by
    intro m; rw [new_get, with_get]; rfl
  exact {
    le := ext_le hN
    dom := fun m hm => by
      apply ext_ne
      rcases hm with hm | hm
      · omega
      · simp only [St.new, St.with] at hm; omega
    next := Nat.le_succ _
    rh := by
      refine { blk := ?_, inj := ?_, fresh := ?_, lt := ?_ }
      · intro m C b1 d1 hC hm
        rw [hget] at hC
        by_cases e : m = σ.next
        · subst e; rw [if_pos rfl] at hC; cases hC; rw [ext_self] at hm; cases hm; exact hR.mono (ext_le hN)
        · rw [if_neg e] at hC; rw [ext_ne _ e] at hm
          by_cases e' : m = n
          · rw [if_pos e'] at hC; cases hC
          · rw [if_neg e'] at hC
            refine ((h.blk m C b1 d1 hC hm).congr (hu.there b1 ?_)).mono (ext_le hN)
            intro e1; subst e1; exact e' (h.inj _ _ _ _ _ _ _ hC hB hm hφ)
      · intro m m' C C' b1 d1 d2 g1 g2 g3 g4
        rw [hget] at g1 g2
        by_cases e : m = σ.next
        · by_cases e' : m' = σ.next
          · rw [e, e']
          · subst e; rw [ext_self] at g3; cases g3; rw [ext_ne _ e'] at g4; rw [if_neg e'] at g2
            by_cases e2 : m' = n
            · rw [if_pos e2] at g2; cases g2
            · rw [if_neg e2] at g2; exact absurd (h.inj _ _ _ _ _ _ _ g2 hB g4 hφ) e2
        · by_cases e' : m' = σ.next
          · subst e'; rw [ext_self] at g4; cases g4; rw [ext_ne _ e] at g3; rw [if_neg e] at g1
            by_cases e2 : m = n
            · rw [if_pos e2] at g1; cases g1
            · rw [if_neg e2] at g1; exact absurd (h.inj _ _ _ _ _ _ _ g1 hB g3 hφ) e2
          · rw [if_neg e] at g1; rw [if_neg e'] at g2; rw [ext_ne _ e] at g3; rw [ext_ne _ e'] at g4
            by_cases e2 : m = n
            · rw [if_pos e2] at g1; cases g1
            · by_cases e3 : m' = n
              · rw [if_pos e3] at g2; cases g2
              · rw [if_neg e2] at g1; rw [if_neg e3] at g2
                exact h.inj _ _ _ _ _ _ _ g1 g2 g3 g4
      · intro m hm
        simp only [St.new, St.with] at hm
        rw [hget, if_neg (by omega), if_neg (by omega)]
        exact h.fresh m (by omega)
      · intro m b1 d1 hm
        rw [hu.size]
        by_cases e : m = σ.next
        · subst e; rw [ext_self] at hm; cases hm; exact h.lt _ _ _ hφ
        · rw [ext_ne _ e] at hm; exact h.lt _ _ _ hm
    conc := fun b1 _ hd => hu.there b1 fun e => by subst e; have := hd n d hφ; rw [hB] at this; cases this
    abs := fun m hm hm' => by
      rw [hget, if_neg (by omega), if_neg]
      intro e; subst e; rw [hφ] at hm'; cases hm'
    dead := fun m hm hg => by
      rw [hget, if_neg (by omega)]
      by_cases e : m = n
      · rw [if_pos e]
      · rw [if_neg e]; exact hg
    newb := fun m b1 d1 hm hm' => by
      by_cases e : m = σ.next
      · subst e; rw [ext_self] at hm'; cases hm'; exact .inr ⟨n, d, hφ, by rw [hB]; simp⟩
      · rw [ext_ne _ e, hm] at hm'; cases hm'
    size := by rw [hu.size]; exact Nat.le_refl _
    os := hu.os
    output := hu.output
    tape := hu.tape }

/-! ## stores -/
theorem oneCell_rv {v v' : Value} (h : RV φ v v') : v'.oneCell' = v.oneCell' := by cases h <;> rfl
theorem all_one {l l' : List Value} (h : RL φ l l') : l'.all Value.oneCell' = l.all Value.oneCell' := by
  induction l generalizing l' with
  | nil => cases h; rfl
  | cons v l ih => cases h with | cons h1 h2 => simp [oneCell_rv h1, ih h2]

theorem setAt_set : ∀ (l : List Value) (n : Nat) (v : Value) (l' : List Value), setAt l n v = some l' → l' = l.set n v ∧ n < l.length
  | [], _, _, _, h => by simp [setAt] at h
  | _ :: l, 0, v, l', h => by simp [setAt] at h; subst h; simp
  | c :: l, n + 1, v, l', h => by
    simp only [setAt] at h
    split at h
    · rename_i l1 h1
      cases h
      obtain ⟨rfl, h2⟩ := setAt_set l n v l1 h1
      exact ⟨by simp, by simpa using h2⟩
    · cases h

theorem putCells_over {cs cs' vs : List Value} {off : Nat} (h : putCells cs off vs = some cs') : cs' = over cs off vs ∧ off + vs.length ≤ cs.length := by
  unfold putCells at h
  split at h
  · rename_i v
    obtain ⟨rfl, hlt⟩ := setAt_set _ _ _ _ h
    refine ⟨?_, by simp only [List.length_singleton]; omega⟩
    rw [over, List.set_eq_take_append_cons_drop, if_pos hlt]; simp
  · split at h
    · rename_i hle; cases h; exact ⟨rfl, hle⟩
    · cases h

theorem RL.over {l l' vs vs' : List Value} (h : RL φ l l') (hv : RL φ vs vs') (o : Nat) : RL φ (Det.over l o vs) (Det.over l' o vs') := by
  unfold Det.over
  rw [hv.length]
  exact ((h.take o).append hv).append (h.drop _)

theorem over_window (c vs : List Value) (d o k : Nat) (h : o + vs.length ≤ k) (hk : d + k ≤ c.length) :
    ((over c (d + o) vs).drop d).take k = over ((c.drop d).take k) o vs := by
  apply List.ext_getElem?
  intro i
  by_cases hi : i < k
  · rw [List.getElem?_take_of_lt hi, List.getElem?_drop]
    unfold over
    simp only [List.append_assoc, List.getElem?_append, List.length_take, List.length_drop, List.getElem?_take, List.getElem?_drop]
    have e1 : min (d + o) c.length = d + o := by omega
    have e2 : min o (min k (c.length - d)) = o := by omega
    rw [e1, e2]
    by_cases h1 : i < o
    · rw [if_pos (by omega), if_pos h1, if_pos (by omega), if_pos h1, if_pos hi]
    · rw [if_neg (by omega), if_neg h1]
      have e3 : d + i - (d + o) = i - o := by omega
      rw [e3]
      by_cases h2 : i - o < vs.length
      · rw [if_pos h2, if_pos h2]
      · rw [if_neg h2, if_neg h2, if_pos (by omega)]
        congr 1; omega
  · have l1 : (((over c (d + o) vs).drop d).take k).length ≤ i := by simp; omega
    have l2 : (over ((c.drop d).take k) o vs).length ≤ i := by simp [over]; omega
    rw [List.getElem?_eq_none l1, List.getElem?_eq_none l2]

theorem sim_st (hRH : RH φ σ w) {n o b : Nat} {d : Nat × Nat} {vs vs' : List Value} (h : stCells σ n o vs = some σ') (hφ : φ n = some (b, d)) (hv : RL φ vs vs') :
    ∃ w', (storeCells ⟨b, o + d.1, none⟩ vs').run P w = .ok () w' ∧ Post φ σ w φ σ' w' := by
  unfold stCells at h
  split at h
  · rename_i cs hc
    split at h
    · rename_i hone
      split at h
      · rename_i cs' hp
        cases h
        obtain ⟨rfl, hle⟩ := putCells_over hp
        obtain ⟨c, e, fr, h1, h2, ht, h3⟩ := hRH.cellsOf hc hφ
        have hL := h3.length
        simp only [List.length_take, List.length_drop, Array.length_toList] at hL
        have hvl := hv.length
        by_cases hemp : vs = []
        · subst hemp; cases hv
          refine ⟨w, by simp [storeCells], ?_⟩
          refine post_upd hRH (St.cellsAt_get hc) hφ (.same h1) ⟨c, e, fr, h1, h2, ht, ?_⟩
          simpa [over] using h3
        have hpos : 0 < vs.length := List.length_pos_iff.2 hemp
        obtain ⟨w', c', g1, g2, g3, g4⟩ := run_storeCells (P := P) (o := o + d.1) vs' w c 0 h1 (frz h2) (by omega) (by rw [all_one hv]; exact hone)
        refine ⟨w', g1, post_upd hRH (St.cellsAt_get hc) hφ g2 ⟨c', e, fr, g2.here, by rw [g3]; exact h2, by rw [g3]; exact ht, ?_⟩⟩
        rw [g4]
        have hlen : (over cs o vs).length = cs.length := by simp [over]; omega
        rw [hlen, Nat.add_zero, Nat.add_comm o d.1, over_window _ _ _ _ _ (by omega) (by simp; omega)]
        exact h3.over hv o
      · cases h
    · cases h
  · cases h

theorem sim_stVar {tb : Tb} (hok : tb.Ok P) (hRH : RH φ σ w) {t : TypeId} {a a' v v' : Value} (h : stVar tb t σ a v = some σ') (ha : RV φ a a') (hv : RV φ v v') :
    ∃ w', (Instr.storeAt t a' v').run P w = .ok () w' ∧ Post φ σ w φ σ' w' := by
  unfold stVar at h
  split at h
  · rename_i n o x hx
    cases ha with
    | ptr hφ =>
      rename_i b d
      split at h
      · rename_i hsz
        obtain ⟨i, hi, hs, -, -⟩ := hok.inf _ _ hx
        obtain ⟨w', h1, h2⟩ := sim_st (P := P) hRH h hφ hv.cells
        refine ⟨w', ?_, h2⟩
        have hlen : v'.cells.size = i.size := by
          have := hv.cells.length
          simp only [Array.length_toList] at this
          rw [← this, hsz, hs]
        simp only [Instr.storeAt, Instr.sureAddr, storeVar, Sem.run_bind, Sem.run_pure, Result.andThen_ok, run_sizeOf hi]
        rw [if_neg (by simpa using hlen)]
        exact h1
      · cases h
  · cases h

end Go.Det
