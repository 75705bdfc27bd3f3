/- Det, part L: store, append, copy. -/
import Derived.Test.YtddblfiinmbifaaGreatDetK
namespace Go.Det

variable {φ ψ : Ph} {P : Program} {w w' : World} {σ σ' : St} {tb : Tb}

theorem run_firstCells_loaded {size n : Nat} {a : Addr} {len cap : Nat} {l : List Value} (h : (loadCells a (n * size)).run P w = .ok l.toArray w) :
    (Builtin.firstCells size n (.slice (some a) len cap)).run P w = .ok l.toArray w := h

theorem ld_zero {n o : Nat} {l : List Value} (h : ldCells σ n o 0 = some l) : l = [] := by
  unfold ldCells at h
  split at h
  · simp at h; exact h
  · cases h

theorem lenF_rv {x x' : Value} {n : Nat} (h : lenF x = some n) (hx : RV φ x x') : (Builtin.lenOf x').run P w = .ok n w := by
  unfold lenF at h
  split at h
  · cases h; cases hx <;> rfl
  · cases h; cases hx; rfl
  · cases h

theorem sim_src (hRH : RH φ σ w) {size n n0 : Nat} {x x' : Value} {xs : List Value} (h : srcCells σ size n x = some xs) (hl : lenF x = some n0) (hn : n ≤ n0) (hx : RV φ x x') :
    ∃ xs', (Builtin.firstCells size n x').run P w = .ok xs'.toArray w ∧ RL φ xs xs' := by
  unfold srcCells at h
  split at h
  · cases h; cases hx; exact ⟨[], rfl, .nil⟩
  · rename_i b o len cap
    cases hx with
    | slice _ _ hφ hc hu =>
      obtain ⟨l', g1, g2⟩ := sim_ld (P := P) hRH h hφ
      exact ⟨l', g1, g2⟩
    | sliceUnk _ _ _ hφ h0 hc ht =>
      obtain ⟨l', g1, g2⟩ := sim_ld (P := P) hRH h hφ
      exact ⟨l', g1, g2⟩
    | sliceEmpty a c k ha =>
      simp only [lenF, Option.some.injEq] at hl
      have hn0 : n = 0 := by omega
      subst hn0
      rw [Nat.zero_mul] at h
      have := ld_zero h; subst this
      exact ⟨[], by simp [Builtin.firstCells, loadCells, loadCellsFrom], .nil⟩
  · rename_i s
    cases h; cases hx
    refine ⟨(s.data.toList.take n).map fun b => Value.int .u8 b.toNat, ?_, flatL_rv _ _ (flatL_map (fun _ => rfl) _)⟩
    simp only [Builtin.firstCells, Sem.run_pure]
    congr 1
    apply Array.toList_inj.1
    simp only [Array.toList_map, List.toList_toArray]
    congr 1
    rw [ByteArray.data_extract]
    simp only [Array.toList_extract, List.extract_eq_take_drop]
    simp
  · cases h

section
variable {argTypes : Array TypeId} {ty t tx elem : TypeId} {dx : TypeDesc} {i : TypeInfo} {z : Value}

theorem isInt_false {dx : TypeDesc} (h : (match dx with | .int _ => true | _ => false) = false) : ∀ k, dx ≠ .int k := by
  rintro k rfl; simp at h

theorem run_append_in (ht0 : argTypes[0]? = some t) (ht1 : argTypes[1]? = some tx)
    (hD : P.underlying t = some (.slice elem)) (hX : P.underlying tx = some dx) (hdx : ∀ k, dx ≠ .int k)
    (hi : P.info? elem = some i) {base : Option Addr} {sLen sCap n : Nat} {x' : Value} {xs' : List Value}
    (hn : (Builtin.lenOf x').run P w = .ok n w) (hxs : (Builtin.firstCells i.size n x').run P w = .ok xs'.toArray w) (hroom : sLen + n ≤ sCap)
    (hst : (match base with | some a => (storeCells (a.add (sLen * i.size)) xs').run P w | none => .ok () w) = .ok () w') :
    (Builtin.append_ argTypes ty #[.slice base sLen sCap, x']).run P w = .ok (.slice base (sLen + n) sCap) w' := by
  have hm : (match dx with | .int _ => true | _ => false) = false := by cases dx <;> first | rfl | (exact absurd rfl (hdx _))
  unfold Builtin.append_
  simp only [ht0, ht1, List.getElem?_toArray, List.getElem?_cons_zero, List.getElem?_cons_succ, Sem.run_bind, run_und hD, Result.andThen_ok, run_sizeOf hi, run_und hX, Sem.run_pure, hm,
    Bool.false_eq_true, if_false, hn, hroom, if_true, Bool.not_false, hxs]
  cases base with
  | none => simp only at hst; cases hst; simp
  | some a => simp only at hst ⊢; simp only [hst, Result.andThen_ok, Sem.run_pure, Sem.run_bind]

theorem run_append_out (ht0 : argTypes[0]? = some t) (ht1 : argTypes[1]? = some tx)
    (hD : P.underlying t = some (.slice elem)) (hX : P.underlying tx = some dx) (hdx : ∀ k, dx ≠ .int k)
    (hi : P.info? elem = some i) (hz : i.zero = some z) (hby : i.bytes ≠ 0) {base : Option Addr} {sLen sCap n : Nat} {x' : Value} {xs' olds : List Value}
    (hn : (Builtin.lenOf x').run P w = .ok n w) (hroom : ¬ sLen + n ≤ sCap) (hfit : (sLen + n) * i.bytes ≤ 140737488355328)
    (hxs : (Builtin.firstCells i.size n x').run P w.drew = .ok xs'.toArray w.drew)
    (hol : (Builtin.firstCells i.size sLen (.slice base sLen sCap)).run P w.drew = .ok olds.toArray w.drew) :
    (Builtin.append_ argTypes ty #[.slice base sLen sCap, x']).run P w = .ok (.slice (some ⟨w.heap.size, 0, none⟩) (sLen + n) (grownCap w (sLen + n) sCap elem))
      { w.drew with heap := w.heap.push (.cells (olds.toArray ++ xs'.toArray ++ Builtin.zeroCells z.cells (grownCap w (sLen + n) sCap elem - (sLen + n))) elem) } := by
  have hm : (match dx with | .int _ => true | _ => false) = false := by cases dx <;> first | rfl | (exact absurd rfl (hdx _))
  have h48 := growslice_fits (Nat.lt_of_not_le hroom) hfit
  have h48' : ¬ (Builtin.nextslicecap (sLen + n) sCap * i.bytes > 2 ^ 48) := by
    have e : (2 : Nat) ^ 48 = 281474976710656 := by decide
    rw [e]; omega
  unfold Builtin.append_
  simp only [ht0, ht1, List.getElem?_toArray, List.getElem?_cons_zero, List.getElem?_cons_succ, Sem.run_bind, run_und hD, Result.andThen_ok, run_sizeOf hi, run_und hX, Sem.run_pure, hm,
    Bool.false_eq_true, if_false, hn, hroom, Bool.not_false, run_info hi, false_or, hby, and_false, h48', run_choose, Question.forced, run_askRoom, if_true]
  have hol' : (Builtin.firstCells i.size sLen (.slice base sLen sCap)).run P { w with drawn := w.drawn + 1 } = .ok olds.toArray { w with drawn := w.drawn + 1 } := hol
  have hxs' : (Builtin.firstCells i.size n x').run P { w with drawn := w.drawn + 1 } = .ok xs'.toArray { w with drawn := w.drawn + 1 } := hxs
  simp only [hol', hxs', Result.andThen_ok, run_zero hi hz, newRow, Sem.run_bind, run_newObj, Sem.run_pure]
  rfl
end

/-! ## append and copy, related -/
theorem post_drew (h : RH φ σ w) : Post φ σ w φ σ w.drew := post_still h rfl rfl rfl rfl

/-- the world behind a new row, one draw on -/
theorem post_drew_row (hRH : RH φ σ w) (hN : φ σ.next = none) {cs : List Value} {c : Array Value} (e : TypeId) (hc : RL φ cs (c.toList.take cs.length)) :
    Post φ σ w (ext φ σ.next (w.heap.size, (0, c.size))) (σ.new (.cells cs)) { w.drew with heap := w.heap.push (.cells c e) } := by
  refine post_new (w' := { w.drew with heap := w.heap.push (.cells c e) }) hRH hN (by simp) (push_old w _) rfl rfl rfl ⟨c, e, (0, 0), push_new w _, .inl rfl, rfl, ?_⟩
  rw [List.drop_zero]
  exact hc.mono (ext_le hN)

theorem zeroCells_toList_size (z : Array Value) (n : Nat) : (Builtin.zeroCells z n).size = n * z.size := size_zeroCells z n

theorem sim_append (hok : tb.Ok P) (hRH : RH φ σ w) {argTypes : Array TypeId} {ty t tx elem : TypeId} {dx : TypeDesc} (ht0 : argTypes[0]? = some t) (ht1 : argTypes[1]? = some tx)
    (hD : P.underlying t = some (.slice elem)) (hX : P.underlying tx = some dx) (hdx : ∀ k, dx ≠ .int k) {s x s' x' v : Value}
    (h : appendF tb elem σ s x = some (v, σ')) (hs : RV φ s s') (hx : RV φ x x') (hN : NoName φ σ σ') :
    ∃ φ' v' w', (Builtin.append_ argTypes ty #[s', x']).run P w = .ok v' w' ∧ Post φ σ w φ' σ' w' ∧ RV φ' v v' := by
  unfold appendF at h
  split at h
  · rename_i size bytes z base sLen sCap n hti hn
    obtain ⟨i, hi, hsz, hby, hz⟩ := hok.inf _ _ hti
    have hsz : i.size = size := hsz
    have hby : i.bytes = bytes := hby
    have hz : i.zero = some z := hz
    split at h
    · cases h
    · rename_i xs hxs
      split at h
      · cases h
      · rename_i hcond
        simp only [Bool.or_eq_true, not_or, Bool.not_eq_true, Bool.not_eq_false', decide_eq_true_eq, decide_eq_false_iff_not, bne_iff_ne, ne_eq, Decidable.not_not] at hcond
        obtain ⟨⟨⟨hone, hb0⟩, hxl⟩, hzs⟩ := hcond
        have hlen := lenF_rv (P := P) (w := w) hn hx
        obtain ⟨xs', g1, g2⟩ := sim_src (P := P) hRH hxs hn (Nat.le_refl n) hx
        obtain ⟨xs2, k1, k2⟩ := sim_src (P := P) (post_drew hRH).rh hxs hn (Nat.le_refl n) hx
        -- a new row
        have grow : ∀ (base' : Option Addr) (cap' : Nat) (olds old' : List Value) (σ₀ : St), (sLen + n) * bytes ≤ 140737488355328 → ¬ sLen + n ≤ cap' → 0 < sLen + n →
            olds.length = sLen * size → RL φ olds old' →
            (Builtin.firstCells i.size sLen (.slice base' sLen cap')).run P w.drew = .ok old'.toArray w.drew → RH φ σ₀ w → φ σ₀.next = none →
            ∃ φ' v' w', (Builtin.append_ argTypes ty #[.slice base' sLen cap', x']).run P w = .ok v' w' ∧ Post φ σ₀ w φ' (σ₀.new (.cells (olds ++ xs))) w' ∧
              RV φ' (.slice (some ⟨σ₀.next, 0, none⟩) (sLen + n) (unk + size)) v' := by
          intro base' cap' olds old' σ₀ hfit hroom hpos hol hrl hfc hRH0 hN0
          have hge := grownCap_ge w (sLen + n) cap' elem
          refine ⟨_, _, _, run_append_out ht0 ht1 hD hX hdx hi hz (by rw [hby]; exact hb0) hlen hroom (by rw [hby]; exact hfit) (by rw [hsz]; exact k1) hfc, post_drew_row hRH0 hN0 elem ?_, ?_⟩
          · have e1 : (old'.toArray ++ xs2.toArray ++ Builtin.zeroCells z.cells (grownCap w (sLen + n) cap' elem - (sLen + n))).toList = (old' ++ xs2) ++ (Builtin.zeroCells z.cells (grownCap w (sLen + n) cap' elem - (sLen + n))).toList := by simp
            rw [e1, List.take_left' (by simp [hrl.length, k2.length])]
            exact hrl.append k2
          · refine .sliceUnk (d := (0, _)) _ _ _ (ext_self _ _) hpos hge ?_
            have l1 := hrl.length
            have l2 := k2.length
            have hzs : z.cells.size = size := by simpa using hzs
            simp only [Array.size_append, List.size_toArray, size_zeroCells, hzs, ← l1, ← l2, hol, hxl]
            rw [← Nat.add_mul, ← Nat.add_mul]
            have : sLen + n + (grownCap w (sLen + n) cap' elem - (sLen + n)) = grownCap w (sLen + n) cap' elem := by omega
            rw [this]
            omega
        split at h
        · -- nil
          split at h
          · rename_i hz0
            obtain ⟨rfl, rfl⟩ := hz0
            have hs0 : s' = .slice none 0 0 := by cases hs; rfl
            subst hs0
            split at h
            · rename_i hn0
              subst hn0
              simp only [Option.some.injEq, Prod.mk.injEq] at h
              obtain ⟨rfl, rfl⟩ := h
              refine ⟨φ, .slice none (0 + 0) 0, w, run_append_in ht0 ht1 hD hX hdx hi hlen (by rw [hsz]; exact g1) (Nat.le_refl _) rfl, .refl hRH, .sliceNil⟩
            · rename_i hn0
              split at h
              · rename_i hfit
                simp only [Option.some.injEq, Prod.mk.injEq] at h
                obtain ⟨rfl, rfl⟩ := h
                have := grow none 0 [] [] σ (by rw [Nat.zero_add]; exact hfit) (by omega) (by omega) (by simp) .nil rfl hRH (hN _ (Nat.le_refl _) (Nat.lt_succ_self _))
                simpa using this
              · cases h
          · cases h
        · rename_i b o
          split at h
          · -- an unknown capacity
            rename_i hunk
            split at h
            · cases h
            · rename_i hk
              simp only [not_or, ne_eq, Decidable.not_not] at hk
              obtain ⟨hk0, hk1⟩ := hk
              subst hk1
              obtain ⟨bb, d, cap', hφ, hcle, htot, rfl⟩ : ∃ bb d cap', φ b = some (bb, d) ∧ sLen ≤ cap' ∧ o + d.1 + cap' * size ≤ d.2 ∧ s' = .slice (some ⟨bb, o + d.1, none⟩) sLen cap' := by
                generalize hc : unk + size = c at hs
                cases hs with
                | slice _ _ hφ _ hu => omega
                | sliceUnk _ cap' k hφ h0 hc' ht =>
                  have : k = size := by omega
                  subst this
                  exact ⟨_, _, _, hφ, hc', ht, rfl⟩
                | sliceEmpty => omega
              split at h
              · rename_i hn0
                subst hn0
                simp only [Option.some.injEq, Prod.mk.injEq] at h
                obtain ⟨rfl, rfl⟩ := h
                have hxs0 : xs' = [] := by
                  have := g2.length
                  rw [hxl, Nat.zero_mul] at this
                  exact List.eq_nil_of_length_eq_zero this.symm
                subst hxs0
                refine ⟨φ, .slice (some ⟨bb, o + d.1, none⟩) (sLen + 0) cap', w, run_append_in ht0 ht1 hD hX hdx hi hlen (by rw [hsz]; exact g1) (by omega) (by simp [storeCells]), .refl hRH, ?_⟩
                exact .sliceUnk _ _ _ hφ (by omega) hcle htot
              · rename_i hn0
                split at h
                · rename_i hfit
                  split at h
                  · rename_i old hold
                    simp only [Option.some.injEq, Prod.mk.injEq] at h
                    obtain ⟨rfl, rfl⟩ := h
                    have hN0 : φ σ.next = none := hN _ (Nat.le_refl _) (Nat.lt_succ_self _)
                    have hold' := hold
                    unfold ldCells at hold'
                    split at hold'
                    · rename_i cs hcs
                      have hB := St.cellsAt_get hcs
                      have holl : old.length = sLen * size := by
                        split at hold'
                        · rename_i h0; cases hold'; simp [h0]
                        · dsimp only at hold'
                          split at hold'
                          · rename_i hl; cases hold'; exact hl
                          · cases hold'
                      by_cases hroom : sLen + n ≤ cap'
                      · -- in place
                        obtain ⟨c, e, fr, f1, f2, f3, f4⟩ := hRH.cellsOf hcs hφ
                        have hxl' : xs'.length = n * size := by rw [← g2.length, hxl]
                        have hmul : sLen * size + n * size ≤ cap' * size := by rw [← Nat.add_mul]; exact Nat.mul_le_mul_right _ hroom
                        obtain ⟨w', c', q1, q2, q3, q4⟩ := run_storeCells (P := P) (o := o + d.1 + sLen * i.size) xs' w c 0 f1 (frz f2) (by rw [hsz, f3]; omega) (by rw [all_one g2]; exact hone)
                        obtain ⟨old', o1, o2⟩ := sim_ld (P := P) hRH hold hφ
                        have hld := run_loadCells (P := P) (o := o + d.1) (k := sLen * size) f1 (by omega)
                        rw [hld] at o1
                        have o3 : (c.toList.drop (o + d.1)).take (sLen * size) = old' := by
                          have := congrArg (fun r => match r with | Result.ok a _ => some a | _ => none) o1
                          simpa using this
                        refine ⟨ext φ σ.next (bb, (o + d.1, d.2)), .slice (some ⟨bb, o + d.1, none⟩) (sLen + n) cap', w',
                          run_append_in ht0 ht1 hD hX hdx hi hlen (by rw [hsz]; exact g1) hroom (by simp only [add_none]; exact q1),
                          post_rename hRH hN0 hB hφ q2 ⟨c', e, fr, q2.here, by rw [q3]; exact f2, by rw [q3]; exact f3, ?_⟩, ?_⟩
                        · rw [q4, hsz, Nat.add_zero]
                          have hcl : c.toList.length = d.2 := by simpa using f3
                          have e1 : ((over c.toList (o + d.1 + sLen * size) xs').drop (o + d.1)).take (old ++ xs).length = old' ++ xs' := by
                            have hlen2 : (old ++ xs).length = sLen * size + n * size := by rw [List.length_append, holl, hxl]
                            rw [hlen2, over_window _ _ _ _ _ (by omega) (by omega)]
                            unfold over
                            have a1 : ((c.toList.drop (o + d.1)).take (sLen * size + n * size)).take (sLen * size) = old' := by
                              rw [List.take_take, Nat.min_eq_left (by omega)]; exact o3
                            have a2 : ((c.toList.drop (o + d.1)).take (sLen * size + n * size)).drop (sLen * size + xs'.length) = [] := by
                              apply List.drop_of_length_le; simp; omega
                            rw [a1, a2]; simp
                          rw [e1]
                          exact o2.append g2
                        · have := RV.sliceUnk (φ := ext φ σ.next (bb, (o + d.1, d.2))) (o := 0) (sLen + n) cap' size (ext_self σ.next (bb, (o + d.1, d.2))) (by omega) hroom (by simp only; omega)
                          simpa using this
                      · -- a new row
                        obtain ⟨old', o1, o2⟩ := sim_ld (P := P) (post_drew hRH).rh hold hφ
                        have hkill : Post φ σ w φ (σ.with b none) w := by
                          refine { le := .refl _, dom := fun _ _ => rfl, next := Nat.le_refl _, rh := ?_, conc := fun _ _ _ => rfl, abs := ?_, dead := ?_, newb := ?_, size := Nat.le_refl _, os := rfl, output := rfl, tape := rfl }
                          · refine { blk := ?_, inj := ?_, fresh := ?_, lt := hRH.lt }
                            · intro m B' b' d' hm hm'
                              rw [with_get] at hm; split at hm
                              · cases hm
                              · exact hRH.blk _ _ _ _ hm hm'
                            · intro m m' B' B'' b' d1 d2 h1 h2 h3 h4
                              rw [with_get] at h1 h2
                              split at h1
                              · cases h1
                              · split at h2
                                · cases h2
                                · exact hRH.inj _ _ _ _ _ _ _ h1 h2 h3 h4
                            · intro m hm; rw [with_get]; split
                              · rfl
                              · exact hRH.fresh m hm
                          · intro m _ hm; rw [with_get, if_neg]; intro e; subst e; rw [hφ] at hm; cases hm
                          · intro m _ hm; rw [with_get]; split
                            · rfl
                            · exact hm
                          · intro m b' d' h1 h2; rw [h1] at h2; cases h2
                        obtain ⟨φ', v', w', r1, r2, r3⟩ := grow (some ⟨bb, o + d.1, none⟩) cap' old old' (σ.with b none) hfit hroom (by omega) holl o2 (by rw [hsz]; exact o1) hkill.rh hN0
                        exact ⟨φ', v', w', r1, hkill.trans r2 hN, r3⟩
                    · cases hold'
                  · cases h
                · cases h
          · -- a known capacity
            rename_i hunk
            split at h
            · rename_i hroom
              split at h
              · rename_i σ1 hst
                simp only [Option.some.injEq, Prod.mk.injEq] at h
                obtain ⟨rfl, rfl⟩ := h
                cases hs with
                | slice _ _ hφ hc hu =>
                  rename_i bb d
                  obtain ⟨w', q1, q2⟩ := sim_st (P := P) hRH hst hφ g2
                  refine ⟨φ, .slice (some ⟨bb, o + d.1, none⟩) (sLen + n) sCap, w', run_append_in ht0 ht1 hD hX hdx hi hlen (by rw [hsz]; exact g1) hroom ?_, q2, .slice _ _ hφ hroom hu⟩
                  simp only [add_none, hsz]
                  have : o + d.1 + sLen * size = o + sLen * size + d.1 := by omega
                  rw [this]; exact q1
                | sliceUnk => omega
                | sliceEmpty => omega
              · cases h
            · rename_i hroom
              split at h
              · rename_i hfit
                split at h
                · rename_i old hold
                  simp only [Option.some.injEq, Prod.mk.injEq] at h
                  obtain ⟨rfl, rfl⟩ := h
                  cases hs with
                  | slice _ _ hφ hc hu =>
                    rename_i bb d
                    obtain ⟨old', o1, o2⟩ := sim_ld (P := P) (post_drew hRH).rh hold hφ
                    have holl : old.length = sLen * size := by
                      unfold ldCells at hold
                      split at hold
                      · split at hold
                        · rename_i h0; cases hold; simp [h0]
                        · dsimp only at hold
                          split at hold
                          · rename_i hl; cases hold; exact hl
                          · cases hold
                      · cases hold
                    exact grow (some ⟨bb, o + d.1, none⟩) sCap old old' σ hfit hroom (by omega) holl o2 (by rw [hsz]; exact o1) hRH (hN _ (Nat.le_refl _) (Nat.lt_succ_self _))
                  | sliceUnk => omega
                  | sliceEmpty => omega
                · cases h
              · cases h
        · cases h
  · cases h

theorem run_copy {argTypes : Array TypeId} {ty t elem : TypeId} {i : TypeInfo} (ht0 : argTypes[0]? = some t) (hD : P.underlying t = some (.slice elem)) (hi : P.info? elem = some i)
    {base : Option Addr} {dLen cap n0 : Nat} {x' : Value} {xs' : List Value} (hn : (Builtin.lenOf x').run P w = .ok n0 w)
    (hxs : (Builtin.firstCells i.size (Nat.min n0 dLen) x').run P w = .ok xs'.toArray w)
    (hst : (match base with | some a => (storeCells a xs').run P w | none => .ok () w) = .ok () w') :
    (Builtin.copy_ argTypes ty #[.slice base dLen cap, x']).run P w = .ok (.int .i64 (Nat.min n0 dLen)) w' := by
  unfold Builtin.copy_
  simp only [ht0, List.getElem?_toArray, List.getElem?_cons_zero, List.getElem?_cons_succ, Sem.run_bind, run_und hD, Result.andThen_ok, run_sizeOf hi, hn, hxs]
  cases base with
  | none => simp only at hst; cases hst; rfl
  | some a => simp only at hst ⊢; simp only [hst, Result.andThen_ok, Sem.run_pure, Sem.run_bind]; rfl

theorem sim_copy (hok : tb.Ok P) (hRH : RH φ σ w) {argTypes : Array TypeId} {ty t elem : TypeId} (ht0 : argTypes[0]? = some t)
    (hD : P.underlying t = some (.slice elem)) {s x s' x' v : Value}
    (h : copyF tb elem σ s x = some (v, σ')) (hs : RV φ s s') (hx : RV φ x x') :
    ∃ φ' v' w', (Builtin.copy_ argTypes ty #[s', x']).run P w = .ok v' w' ∧ Post φ σ w φ' σ' w' ∧ RV φ' v v' := by
  unfold copyF at h
  split at h
  · rename_i ti base dLen cap n0 hti hn
    obtain ⟨i, hi, hsz, -⟩ := hok.inf _ _ hti
    dsimp only at h
    split at h
    · cases h
    · rename_i xs hxs
      split at h
      · cases h
      · rename_i hone
        have hlen := lenF_rv (P := P) (w := w) hn hx
        obtain ⟨xs', g1, g2⟩ := sim_src (P := P) hRH hxs hn (Nat.min_le_left _ _) hx
        have hnil : xs.isEmpty = true → xs' = [] := by
          intro he
          have : xs = [] := by simpa using he
          subst this; cases g2; rfl
        have nothing : xs.isEmpty = true → ∀ (base' : Option Addr) (cap' : Nat), (some (Value.int .i64 (Nat.min n0 dLen), σ) = some (v, σ')) →
            ∃ φ' v' w', (Builtin.copy_ argTypes ty #[.slice base' dLen cap', x']).run P w = .ok v' w' ∧ Post φ σ w φ' σ' w' ∧ RV φ' v v' := by
          intro he base' cap' h
          simp only [Option.some.injEq, Prod.mk.injEq] at h
          obtain ⟨rfl, rfl⟩ := h
          have := hnil he; subst this
          refine ⟨φ, _, w, run_copy ht0 hD hi hlen (by rw [hsz]; exact g1) ?_, .refl hRH, .int _ _⟩
          cases base' <;> simp [storeCells]
        split at h
        · split at h
          · rename_i he
            have hex : ∃ cap', s' = .slice none dLen cap' := by cases hs; exact ⟨_, rfl⟩
            obtain ⟨cap', rfl⟩ := hex
            exact nothing he none cap' h
          · cases h
        · rename_i b o
          split at h
          · rename_i he
            have hex : ∃ base' cap', s' = .slice base' dLen cap' := by cases hs <;> exact ⟨_, _, rfl⟩
            obtain ⟨base', cap', rfl⟩ := hex
            exact nothing he base' cap' h
          · rename_i he
            split at h
            · rename_i σ1 hst
              simp only [Option.some.injEq, Prod.mk.injEq] at h
              obtain ⟨rfl, rfl⟩ := h
              have fin : ∀ (bb : Nat) (d : Nat × Nat) (cap' : Nat), φ b = some (bb, d) →
                  ∃ φ' v' w', (Builtin.copy_ argTypes ty #[.slice (some ⟨bb, o + d.1, none⟩) dLen cap', x']).run P w = .ok v' w' ∧ Post φ σ w φ' σ1 w' ∧ RV φ' (.int .i64 (Nat.min n0 dLen)) v' := by
                intro bb d cap' hφ
                obtain ⟨w', q1, q2⟩ := sim_st (P := P) hRH hst hφ g2
                exact ⟨φ, _, w', run_copy ht0 hD hi hlen (by rw [hsz]; exact g1) q1, q2, .int _ _⟩
              cases hs with
              | slice _ _ hφ hc hu => exact fin _ _ _ hφ
              | sliceUnk _ _ _ hφ h0 hc ht => exact fin _ _ _ hφ
              | sliceEmpty a c k ha =>
                exfalso
                have h0 : Nat.min n0 0 = 0 := Nat.min_eq_right (Nat.zero_le _)
                rw [h0] at hxs
                apply he
                unfold srcCells at hxs
                split at hxs
                · cases hxs; rfl
                · rw [Nat.zero_mul] at hxs; rw [ld_zero hxs]; rfl
                · cases hxs; simp
                · cases hxs
            · cases h
        · cases h
  · cases h

theorem sim_act (hok : tb.Ok P) (hRH : RH φ σ w) {ρ : Operand → Option Value} {ρ' : Operand → Value} (hρ : ∀ x v, ρ x = some v → RV φ v (ρ' x))
    {o : Oper} {v : Value} (h : actF tb ρ o.op σ = some (v, σ')) (hN : NoName φ σ σ') :
    ∃ φ' w', Post φ σ w φ' σ' w' ∧ ((∃ v', (execOp ρ' o).run P w = .ok (.value v') w' ∧ RV φ' v v') ∨ ((execOp ρ' o).run P w = .ok .skip w' ∧ v = undef)) := by
  obtain ⟨dst, op, type, pos, after, guard⟩ := o
  dsimp only at h
  cases op <;> simp only [execOp]
  case store t a x =>
    simp only [actF] at h
    split at h
    · rename_i p u hp hu
      split at h
      · rename_i σ1 hst
        simp only [Option.some.injEq, Prod.mk.injEq] at h
        obtain ⟨rfl, rfl⟩ := h
        obtain ⟨w', h1, h2⟩ := sim_stVar (P := P) hok hRH hst (hρ _ _ hp) (hρ _ _ hu)
        exact ⟨φ, w', h2, .inr ⟨by simp only [Sem.run_bind, h1, Result.andThen_ok, Sem.run_pure], rfl⟩⟩
      · cases h
    · cases h
  case convert src dst x =>
    simp only [actF] at h
    split at h
    · rename_i e0 e n o len cap h1 h2 h3
      split at h
      · rename_i h4
        split at h
        · rename_i hc
          obtain ⟨hsd, hcap⟩ := hc
          subst hsd
          rw [h1] at h2; cases h2
          split at h
          · rename_i cs hcs
            simp only [Option.some.injEq, Prod.mk.injEq] at h
            obtain ⟨rfl, rfl⟩ := h
            have hx := hρ _ _ h3
            generalize ρ' x = x' at hx
            have fin : ∀ (b : Nat) (d : Nat × Nat) (cap' : Nat), φ n = some (b, d) → RV φ (.slice (some ⟨n, o, none⟩) len cap) (.slice (some ⟨b, o + d.1, none⟩) len cap') →
                ∃ φ' w', Post φ σ w φ' (σ.with n (some (.cells cs))) w' ∧
                  ((∃ v', (do pure (.value (← convert src src (.slice (some ⟨b, o + d.1, none⟩) len cap'))) : Sem Next).run P w = .ok (.value v') w' ∧ RV φ' (.slice (some ⟨n, o, none⟩) len cap) v') ∨
                   ((do pure (.value (← convert src src (.slice (some ⟨b, o + d.1, none⟩) len cap'))) : Sem Next).run P w = .ok .skip w' ∧ Value.slice (some ⟨n, o, none⟩) len cap = undef)) := by
              intro b d cap' hφ hrv
              obtain ⟨c, ee, fr, f1, f2, f3, f4⟩ := hRH.cellsOf hcs hφ
              have hsh : w.shape? b = some (ee, c.size) := by simp [World.shape?, f1]
              have hrun : (convert src src (.slice (some ⟨b, o + d.1, none⟩) len cap')).run P w = .ok (.slice (some ⟨b, o + d.1, none⟩) len cap') (w.freeze ⟨b, c.size, none⟩ 1) := by
                simp only [convert, Sem.run_bind, run_und (hok.und _ _ h1), run_und (hok.und _ _ h4), Result.andThen_ok, beq_self_eq_true]
                simp only [Sem.run_bind, markStringish, run_shape, hsh, Result.andThen_ok, run_freeze, Sem.run_pure]
              obtain ⟨lo, hi⟩ := fr
              have hu : Upd w b (.cells c ee (if lo == hi then (c.size, c.size + 1) else (min lo c.size, max hi (c.size + 1)))) (w.freeze ⟨b, c.size, none⟩ 1) := by
                refine ⟨?_, ?_, ?_, rfl, rfl, rfl⟩
                · simp only [World.freeze, Nat.one_ne_zero, if_false]
                  rw [Array.getElem?_modify]
                  simp [f1]
                · intro b' hb'
                  simp only [World.freeze, Nat.one_ne_zero, if_false]
                  rw [Array.getElem?_modify, if_neg (fun h => hb' h.symm)]
                · simp [World.freeze]
              refine ⟨φ, _, post_upd hRH (St.cellsAt_get hcs) hφ hu ⟨c, ee, _, hu.here, ?_, f3, f4⟩, .inl ⟨_, run_v hrun, hrv⟩⟩
              simp only at f2
              split
              · exact .inr (Nat.le_refl _)
              · rename_i hne
                refine .inr ?_
                rcases f2 with f2 | f2
                · exact absurd (by simpa using f2) hne
                · simp only; omega
            cases hx with
            | slice _ _ hφ hc hu => exact fin _ _ _ hφ (.slice _ _ hφ hc hu)
            | sliceUnk _ _ _ hφ h0 hc ht => exact fin _ _ _ hφ (.sliceUnk _ _ _ hφ h0 hc ht)
            | sliceEmpty a c k ha => exfalso; rcases hcap with h | h <;> omega
          · cases h
        · cases h
      · cases h
    · cases h
  case call c =>
    obtain ⟨callee, args, argTypes⟩ := c
    cases callee <;> try (simp [actF] at h; done)
    rename_i b
    cases b <;> try (simp [actF] at h; done)
    case append =>
      simp only [actF] at h
      split at h
      · rename_i s x t tx ha ht htx
        split at h
        · rename_i elem dx h1 h2
          split at h
          · cases h
          · rename_i hdx
            have hl := mapM_rl hρ _ _ ha
            rw [← toList_map] at hl
            simp only [resolve, Sem.run_bind, Sem.run_pure, Result.andThen_ok, invoke, builtin]
            suffices hs : ∃ φ' v' w', (Builtin.append_ argTypes type (args.map ρ')).run P w = .ok v' w' ∧ Post φ σ w φ' σ' w' ∧ RV φ' v v' by
              obtain ⟨φ', v', w', g1, g2, g3⟩ := hs
              exact ⟨φ', w', g2, .inl ⟨v', by simp only [g1, Result.andThen_ok], g3⟩⟩
            generalize args.map ρ' = A' at hl
            obtain ⟨l'⟩ := A'
            simp only at hl
            cases hl with
            | cons hs hl =>
              cases hl with
              | cons hx hnil =>
                cases hnil
                exact sim_append hok hRH ht htx (hok.und _ _ h1) (hok.und _ _ h2) (fun k e => hdx k e) h hs hx hN
        · cases h
      · cases h
    case copy =>
      simp only [actF] at h
      split at h
      · rename_i s x t ha ht
        split at h
        · rename_i elem h1
          have hl := mapM_rl hρ _ _ ha
          rw [← toList_map] at hl
          simp only [resolve, Sem.run_bind, Sem.run_pure, Result.andThen_ok, invoke, builtin]
          suffices hs : ∃ φ' v' w', (Builtin.copy_ argTypes type (args.map ρ')).run P w = .ok v' w' ∧ Post φ σ w φ' σ' w' ∧ RV φ' v v' by
            obtain ⟨φ', v', w', g1, g2, g3⟩ := hs
            exact ⟨φ', w', g2, .inl ⟨v', by simp only [g1, Result.andThen_ok], g3⟩⟩
          generalize args.map ρ' = A' at hl
          obtain ⟨l'⟩ := A'
          simp only at hl
          cases hl with
          | cons hs hl =>
            cases hl with
            | cons hx hnil =>
              cases hnil
              exact sim_copy hok hRH ht (hok.und _ _ h1) h hs hx
        · cases h
      · cases h
  all_goals (simp [actF] at h)

end Go.Det
