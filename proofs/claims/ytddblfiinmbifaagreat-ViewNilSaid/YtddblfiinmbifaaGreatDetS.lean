/- Det, part S: a region that draws its order: every order. -/
import Derived.Test.YtddblfiinmbifaaGreatDetR
namespace Go.Det

variable {D : List Deferred}
variable {φ ψ : Ph} {P : Program} {w w' w₀ : World} {σ σ' : St} {tb : Tb} {call : CallF} {ops : List Oper} {t : Tm} {T : Nat → Tm} {S : Nat → St} {V : Nat → Value}
variable {l : Array Bool} {k : Nat} {a : Act}

theorem wpOp_of_wp (r : Option Nat) {P : Program} {ops : List Oper} {Q : Exit → Act → World → Prop} {i : Nat} {o : Oper} {K : Act → World → Prop} {a : Act} {w : World} (ho : ops[i]? = some o)
    {b : Bool} (hw : Region.wanted o (yielded ops.toArray a.tmps) = b) (h1 : b = true → o.wpIn (Fr r) 0 P a w K Q) (h2 : b = false → K (a.put o.dst undef) w) : wpOpIn (Fr r) 0 P ops.toArray Q i K a w := by
  unfold wpOpIn
  have : ops.toArray[i]? = some o := by simpa using ho
  rw [this]
  simp only [hw]
  cases b with
  | true => rw [if_pos rfl]; exact h1 rfl
  | false => rw [if_neg (by decide)]; exact ⟨fun _ _ => trivial, h2 rfl⟩

theorem Inv.step (r : Option Nat) (hok : tb.Ok P) (hcall : CallOk P call) (hs : Sta tb ops) (ht : Tra P tb call ops t σ T S V) (hN : NoName φ σ (S ops.length)) {Q : Exit → Act → World → Prop} {K : Act → World → Prop}
    (h : Inv D tb ops t σ S V φ w₀ l k ψ a w) {i : Nat} {o : Oper} (hr : Rdy ops l i o)
    (hK : ∀ k' ψ' a' w', Inv D tb ops t σ S V φ w₀ (l.setIfInBounds i true) k' ψ' a' w' → K a' w') : wpOpIn (Fr r) 0 P ops.toArray Q i K a w := by
  have hi : i < ops.length := (List.getElem?_eq_some_iff.1 hr.at').1
  obtain ⟨q, hq, hb⟩ := h.boundary hcall ht _ _ rfl
  have hst := (ht.step i o hr.at').2
  refine wpOp_of_wp r hr.at' (hb.want hs ht hr) ?_ ?_
  · intro hw
    rcases hst with ⟨-, hx⟩ | ⟨hw', -, -⟩
    case inr => rw [hw] at hw'; cases hw'
    have hrho := hb.rho hs ht hr
    have hsame := fun σ => execO_same (P := P) (tb := tb) (call := call) (σ := σ) (seenBy_same o.op (opd (T i)))
    -- what changes nothing, by its value at the boundary
    have quiet : ¬ Act' tb ops i → S (i + 1) = S i → execO P tb call (seenBy o.op (opd (T i))) o.op (S q) = some (V i, S q) →
        (kindOf tb o.op = .pure ∨ kindOf tb o.op = .read) → o.wpIn (Fr r) 0 P a w K Q := by
      intro hna hS hxq hk
      refine ⟨fun _ _ => trivial, ?_⟩
      rw [Oper.semAt_eq _ _ _ (no_defer hx)]
      have hrun : ∃ v', (execOp a.eval o).run P w = .ok (.value v') w ∧ RV ψ (V i) v' := by
        unfold execO at hxq
        rcases hk with hk | hk <;> rw [hk] at hxq <;> simp only at hxq
        · split at hxq
          · rename_i u hu
            simp only [Option.some.injEq, Prod.mk.injEq, and_true] at hxq
            subst hxq
            exact sim_pure (w := w) hok hrho hu
          · cases hxq
        · split at hxq
          · rename_i u hu
            simp only [Option.some.injEq, Prod.mk.injEq, and_true] at hxq
            subst hxq
            exact sim_pure (w := w) hok hrho hu
          · split at hxq
            · rename_i u hu
              simp only [Option.some.injEq, Prod.mk.injEq, and_true] at hxq
              subst hxq
              exact sim_read hok hb.rh hrho hu
            · cases hxq
      obtain ⟨v', g1, g2⟩ := hrun
      rw [g1]
      exact hK _ _ _ _ (hb.still hs hr hna hS g2)
    have notAct : isAct tb o = false → ¬ Act' tb ops i := by
      rintro hna ⟨o', h1, h2⟩
      rw [hr.at'] at h1; cases h1; rw [hna] at h2; cases h2
    cases hk : kindOf tb o.op with
    | pure =>
      have hna : isAct tb o = false := by simp [isAct, hk]
      have hxx := hx
      unfold execO at hxx
      rw [hk] at hxx; simp only at hxx
      split at hxx
      · rename_i u hu
        simp only [Option.some.injEq, Prod.mk.injEq] at hxx
        obtain ⟨rfl, hS⟩ := hxx
        refine quiet (notAct hna) hS.symm ?_ (.inl hk)
        rw [← hsame]
        unfold execO
        rw [hk]; simp only; rw [hu]
      · cases hxx
    | read =>
      have hna : isAct tb o = false := by simp [isAct, hk]
      have hS : S (i + 1) = S i := by
        have hxx := hx
        unfold execO at hxx
        rw [hk] at hxx; simp only at hxx
        split at hxx
        · simp only [Option.some.injEq, Prod.mk.injEq] at hxx; exact hxx.2.symm
        · split at hxx
          · simp only [Option.some.injEq, Prod.mk.injEq] at hxx; exact hxx.2.symm
          · cases hxx
      refine quiet (notAct hna) hS ?_ (.inr hk)
      rw [← hsame]
      refine ht.dyn i o hr.at' hk hw q hq ?_ ?_
      · intro r hrA hanc
        rcases Nat.lt_or_ge r q with hlt | hge
        · exact hlt
        · exact absurd (hr.anc hb hanc) (hb.behind r hge hrA)
      · intro r hrA hlt hanc
        exact hr.out (hb.anc hanc (hb.before r hlt hrA))
    | alloc =>
      have hna : isAct tb o = false := by simp [isAct, hk]
      have hx0 := hx
      rw [hsame] at hx
      unfold execO at hx
      rw [hk] at hx; simp only at hx
      have hfree : ψ (S i).next = none := by
        obtain ⟨C, hC⟩ := alloc_new hx
        exact hb.unl i hi hr.out _ (Nat.le_refl _) (by rw [hC]; exact Nat.lt_succ_self _)
      obtain ⟨tot, C, v', w', g1, g2, g3⟩ := alloc_core (w := w) hok hrho hx hfree
      refine ⟨fun _ _ => trivial, ?_⟩
      rw [Oper.semAt_eq _ _ _ (no_defer hx0)]
      rw [g1]
      exact hK _ _ _ _ (hb.made hcall hs ht hN hr (notAct hna) g2 g3)
    | act =>
      have hA : Act' tb ops i := ⟨o, hr.at', by simp [isAct, hk]⟩
      have hqi : q = i := by
        rcases hq with rfl | hqA
        · exact absurd (hb.before i hi hA) hr.out
        · rcases Nat.lt_trichotomy q i with h1 | h1 | h1
          · exact absurd (hr.anc hb (hs.acts q i h1 hqA hA)) (hb.behind q (Nat.le_refl _) hqA)
          · exact h1
          · exact absurd (hb.before i h1 hA) hr.out
      subst hqi
      rw [hsame] at hx
      exact sim_op hok hcall hb.rh hrho hx (fun m h1 h2 => hb.unl q hi hr.out m h1 h2) (fun φ' v' w' p hv => hK _ _ _ _ (hb.acted hcall hs ht hN hr hA p hv)) r
    | call =>
      have hA : Act' tb ops i := ⟨o, hr.at', by simp [isAct, hk]⟩
      have hqi : q = i := by
        rcases hq with rfl | hqA
        · exact absurd (hb.before i hi hA) hr.out
        · rcases Nat.lt_trichotomy q i with h1 | h1 | h1
          · exact absurd (hr.anc hb (hs.acts q i h1 hqA hA)) (hb.behind q (Nat.le_refl _) hqA)
          · exact h1
          · exact absurd (hb.before i h1 hA) hr.out
      subst hqi
      rw [hsame] at hx
      exact sim_op hok hcall hb.rh hrho hx (fun m h1 h2 => hb.unl q hi hr.out m h1 h2) (fun φ' v' w' p hv => hK _ _ _ _ (hb.acted hcall hs ht hN hr hA p hv)) r
  · intro hw
    rcases hst with ⟨hw', -⟩ | ⟨-, hV, hS⟩
    · rw [hw] at hw'; cases hw'
    by_cases hA : Act' tb ops i
    · have hqi : q = i := by
        rcases hq with rfl | hqA
        · exact absurd (hb.before i hi hA) hr.out
        · rcases Nat.lt_trichotomy q i with h1 | h1 | h1
          · exact absurd (hr.anc hb (hs.acts q i h1 hqA hA)) (hb.behind q (Nat.le_refl _) hqA)
          · exact h1
          · exact absurd (hb.before i h1 hA) hr.out
      subst hqi
      have hp : Post ψ (S q) w ψ (S (q + 1)) w := by rw [hS]; exact .refl hb.rh
      exact hK _ _ _ _ (hb.acted hcall hs ht hN hr hA hp (by rw [hV]; exact rv_undef _))
    · exact hK _ _ _ _ (hb.still hs hr hA hS (by rw [hV]; exact rv_undef _))

theorem Inv.done (hcall : CallOk P call) (hs : Sta tb ops) (ht : Tra P tb call ops t σ T S V) (hN : NoName φ σ (S ops.length))
    (h : Inv D tb ops t σ S V φ w₀ l k ψ a w) (hall : ∀ i, i < ops.length → In l i) : RA ψ D (T ops.length) a ∧ Post φ σ w₀ ψ (S ops.length) w := by
  obtain ⟨q, hq, hb⟩ := h.boundary hcall ht _ _ rfl
  have hqn : q = ops.length := by
    rcases hq with hq | hqA
    · exact hq
    · obtain ⟨o, ho, hao⟩ := hqA
      exact absurd (hall q (List.getElem?_eq_some_iff.1 ho).1) (hb.behind q (Nat.le_refl _) ⟨o, ho, hao⟩)
  subst hqn
  have hlen := ht.len ops.length (Nat.le_refl _)
  refine ⟨⟨RL.of_get (by rw [hlen, ← hb.tsz]; simp) ?_, hb.defers⟩, ?_⟩
  · intro u v v' hv hv'
    rw [Array.getElem?_toList] at hv'
    have hu : u < t.length := by have := (List.getElem?_eq_some_iff.1 hv).1; rwa [hlen] at this
    by_cases hw : ∃ (j : Nat) (oj : Oper), ops[j]? = some oj ∧ oj.dst = some u
    · obtain ⟨j, oj, hj, hjd⟩ := hw
      have hjl := (List.getElem?_eq_some_iff.1 hj).1
      rw [ht.written hs hj hjd hu _ (Nat.le_refl _) hjl] at hv
      cases hv
      obtain ⟨x, g1, g2⟩ := hb.wr j oj u hj (hall j hjl) hjd hu
      rw [g1] at hv'; cases hv'; exact g2
    · have hno : ∀ (j : Nat) (oj : Oper), ops[j]? = some oj → oj.dst ≠ some u := fun j oj hj hjd => hw ⟨j, oj, hj, hjd⟩
      rw [ht.untouched _ (Nat.le_refl _) fun j oj _ hj => hno j oj hj] at hv
      obtain ⟨x, g1, g2⟩ := hb.nw u v hv fun j oj hj _ => hno j oj hj
      rw [g1] at hv'; cases hv'; exact g2
  · exact { le := hb.le, dom := hb.out, next := Inv.next_le hcall ht _ (Nat.le_refl _), rh := hb.rh, conc := hb.conc, abs := hb.abs, dead := hb.dead, newb := hb.newb, size := hb.size, os := hb.os, output := hb.output, tape := hb.tape }

/-- how many have not been listed -/
def left (l : List Bool) : Nat := l.countP (fun b => !b)

theorem left_set : ∀ (l : List Bool) (i : Nat), l[i]? = some false → left (l.set i true) + 1 = left l
  | [], i, h => by simp at h
  | b :: l, 0, h => by simp at h; subst h; simp [left, List.countP_cons]
  | b :: l, i + 1, h => by
    have := left_set l i (by simpa using h)
    simp only [List.set_cons_succ, left, List.countP_cons] at this ⊢
    omega

theorem mem_ready {i : Nat} (h : i ∈ Region.ready .any ops.toArray l) : ∃ o, Rdy ops l i o := by
  simp only [Region.ready, List.mem_filter, List.mem_range, Bool.and_eq_true, Bool.not_eq_true', List.size_toArray] at h
  obtain ⟨hi, h1, h2⟩ := h
  obtain ⟨o, ho⟩ : ∃ o, ops[i]? = some o := ⟨_, List.getElem?_eq_getElem hi⟩
  refine ⟨o, ho, ?_, ?_⟩
  · intro hin
    simp only [In, Array.getD_eq_getD_getElem?] at hin
    rw [Array.getD_eq_getD_getElem?] at h1
    cases hl : l[i]? with
    | none => rw [hl] at h1; simp at h1
    | some b => rw [hl] at h1 hin; simp at h1 hin; rw [h1] at hin; cases hin
  · have : ops.toArray[i]? = some o := by simpa using ho
    rw [this] at h2
    simp only [Option.map_some, Option.getD_some] at h2
    intro e he hb
    rw [Array.all_eq_true_iff_forall_mem] at h2
    have := h2 e he
    simpa [hb, In] using this

theorem ready_nil (hs : Sta tb ops) (hlsz : l.size = ops.length) (h : Region.ready .any ops.toArray l = []) : ∀ i, i < ops.length → In l i := by
  intro i
  induction i using Nat.strongRecOn with
  | _ i ih =>
    intro hi
    apply Classical.byContradiction
    intro hn
    have : i ∈ Region.ready .any ops.toArray l := by
      simp only [Region.ready, List.mem_filter, List.mem_range, Bool.and_eq_true, Bool.not_eq_true', List.size_toArray]
      obtain ⟨o, ho⟩ : ∃ o, ops[i]? = some o := ⟨_, List.getElem?_eq_getElem hi⟩
      have h0 : ops.toArray[i]? = some o := by simpa using ho
      refine ⟨hi, ?_, ?_⟩
      · have hlt : i < l.size := by omega
        simp only [In, Array.getD_eq_getD_getElem?, Array.getElem?_eq_getElem hlt, Option.getD_some] at hn ⊢
        simpa using hn
      · rw [h0]
        simp only [Option.map_some, Option.getD_some]
        rw [Array.all_eq_true_iff_forall_mem]
        intro e he
        cases hb : Region.binds .any e with
        | false => rfl
        | true =>
          have hlt := hs.back i o e ho he hb
          have := ih e.on hlt (by omega)
          simpa [In] using this
    rw [h] at this; cases this

theorem any_sim (r : Option Nat) (hok : tb.Ok P) (hcall : CallOk P call) (hs : Sta tb ops) (ht : Tra P tb call ops t σ T S V) (hN : NoName φ σ (S ops.length)) {Q : Exit → Act → World → Prop}
    (hQ : ∀ φ' a' w', RA φ' D (T ops.length) a' → Post φ σ w₀ φ' (S ops.length) w' → Q .normal a' w') :
    ∀ (fuel : Nat) (l : Array Bool) (k : Nat) (ψ : Ph) (a : Act) (w : World), left l.toList ≤ fuel → Inv D tb ops t σ S V φ w₀ l k ψ a w → wpAnyIn (Fr r) 0 P .any ops.toArray Q fuel l a w := by
  intro fuel
  have fin : ∀ (l : Array Bool) (k : Nat) (ψ : Ph) (a : Act) (w : World), Inv D tb ops t σ S V φ w₀ l k ψ a w → Region.ready .any ops.toArray l = [] → Q .normal a w := by
    intro l k ψ a w h hnil
    obtain ⟨g1, g2⟩ := h.done hcall hs ht hN (ready_nil hs h.lsz hnil)
    exact hQ _ _ _ g1 g2
  induction fuel with
  | zero =>
    intro l k ψ a w hleft h
    have hnil : Region.ready .any ops.toArray l = [] := by
      apply List.eq_nil_iff_forall_not_mem.2
      intro i hi
      obtain ⟨o, hr⟩ := mem_ready hi
      have hlt : i < l.toList.length := by
        rw [Array.length_toList, h.lsz]; exact (List.getElem?_eq_some_iff.1 hr.at').1
      have hf : l.toList[i]? = some false := by
        rw [List.getElem?_eq_getElem hlt]
        have := hr.out
        simp only [In, Array.getD_eq_getD_getElem?] at this
        rw [Array.getElem?_eq_getElem (by simpa using hlt)] at this
        simpa using this
      have := left_set _ _ hf
      omega
    exact ⟨hnil, fin l k ψ a w h hnil⟩
  | succ fuel ih =>
    intro l k ψ a w hleft h
    refine ⟨fin l k ψ a w h, fun i hi => ?_⟩
    obtain ⟨o, hr⟩ := mem_ready hi
    have hlt : i < l.toList.length := by
      rw [Array.length_toList, h.lsz]; exact (List.getElem?_eq_some_iff.1 hr.at').1
    have hf : l.toList[i]? = some false := by
      rw [List.getElem?_eq_getElem hlt]
      have := hr.out
      simp only [In, Array.getD_eq_getD_getElem?] at this
      rw [Array.getElem?_eq_getElem (by simpa using hlt)] at this
      simpa using this
    have hlset := left_set _ _ hf
    refine h.step r hok hcall hs ht hN hr fun k' ψ' a' w' h' => ih _ k' ψ' a' w' ?_ h'
    rw [Array.toList_setIfInBounds]; omega

theorem draw_sim (r : Option Nat) (hok : tb.Ok P) (hcall : CallOk P call) (hs : Sta tb ops) (ht : Tra P tb call ops t σ T S V) (hN : NoName φ σ (S ops.length)) (hA : RA φ D t a) (hH : RH φ σ w)
    {Q : Exit → Act → World → Prop} {id : Nat} (hQ : ∀ φ' a' w', RA φ' D (T ops.length) a' → Post φ σ w φ' (S ops.length) w' → Q .normal a' w') : (Code.region id ops.toArray true).wpIn (Fr r) 0 P Q a w := by
  refine wpIn_region_any hok.mixed ?_
  have hz : ∀ i, ¬ In (Array.replicate ops.toArray.size false) i := by
    intro i hi
    simp only [In, Array.getD_eq_getD_getElem?, Array.getElem?_replicate] at hi
    split at hi <;> simp at hi
  have hlen := hA.tmps.length
  refine any_sim (w₀ := w) r hok hcall hs ht hN hQ _ _ 0 φ _ _ ?_ ?_
  · simp only [left, Array.toList_replicate]
    exact Nat.le_trans List.countP_le_length (by simp)
  · have hd := (post_drew hH).rh
    exact {
      lsz := by simp
      kle := Nat.zero_le _
      down := fun i o e _ hi => absurd hi (hz i)
      before := fun i hi => by omega
      behind := fun i _ _ hi => hz i hi
      le := .refl _
      rh := by rw [ht.s0]; exact hd
      unl := fun i hi _ m h1 h2 => by
        have a1 := Inv.next_le hcall ht i (by omega)
        have a2 := ht.mono hcall (i := i + 1) (j := ops.length) (by omega) (Nat.le_refl _)
        exact hN m (by omega) (by omega)
      out := fun _ _ => rfl
      fut := fun i _ _ hi => absurd hi (hz i)
      pend := fun i _ hi => by omega
      tsz := by rw [hlen]; simp
      wr := fun j _ _ _ hi => absurd hi (hz j)
      nw := fun u x hx _ => by
        obtain ⟨v', g1, g2⟩ := hA.tmps.get hx
        exact ⟨v', by rw [← Array.getElem?_toList]; exact g1, g2⟩
      defers := hA.defers
      conc := fun _ _ _ => rfl
      abs := fun _ _ _ => by rw [ht.s0]
      dead := fun _ _ h => by rw [ht.s0]; exact h
      newb := fun _ _ _ h1 h2 => by rw [h1] at h2; cases h2
      size := Nat.le_refl _
      os := rfl
      output := rfl
      tape := rfl }

end Go.Det
