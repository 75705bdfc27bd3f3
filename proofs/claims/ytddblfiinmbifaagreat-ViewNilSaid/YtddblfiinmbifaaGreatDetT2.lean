/- Det, part T2: marks among the deferred calls; the records of ranges over functions. -/
import Derived.Test.YtddblfiinmbifaaGreatDetT
namespace Go.Det

variable {φ φ' ψ : Ph} {P : Program} {w w' w₀ : World} {σ σ' σ₀ : St}

def markOf (r : Nat) : Deferred := { target := .collected r, args := #[] }

/-- the deferred calls of an activation: marks alone, at blocks that have no name and lie at B or behind -/
structure Marks (B : Nat) (φ : Ph) (σ : St) (w : World) (D : List Deferred) : Prop where
  le : B ≤ w.heap.size
  ex : ∃ rs : List Nat, D = rs.map markOf ∧ rs.Nodup ∧ ∀ r ∈ rs, B ≤ r ∧ w.heap[r]? = some (.deferred (some [])) ∧ ∀ n d, φ n = some (r, d) → σ.hp.get n = none

theorem Marks.nil (φ : Ph) (σ : St) {B : Nat} {w : World} (h : B ≤ w.heap.size) : Marks B φ σ w [] := ⟨h, [], rfl, List.nodup_nil, by simp⟩

theorem dead_post (p : Post φ σ w φ' σ' w') (hH : RH φ σ w) (hN : NoName φ σ σ') {r : Nat} (hr : r < w.heap.size) (hd : ∀ n d, φ n = some (r, d) → σ.hp.get n = none) :
    ∀ n d, φ' n = some (r, d) → σ'.hp.get n = none := by
  intro n d h
  cases h0 : φ n with
  | some x =>
    obtain ⟨b0, d0⟩ := x
    have := p.le _ _ h0
    rw [h] at this; cases this
    have hg := hd n d h0
    by_cases hlt : n < σ.next
    · exact p.dead n hlt hg
    · by_cases hlt' : n < σ'.next
      · have := hN n (by omega) hlt'; rw [this] at h0; cases h0
      · exact p.rh.fresh n (by omega)
  | none =>
    rcases p.newb n r d h0 h with h1 | ⟨n0, d0, h1, h2⟩
    · omega
    · exact absurd (hd n0 d0 h1) h2

theorem Marks.post {B : Nat} {D : List Deferred} (m : Marks B φ σ w D) (p : Post φ σ w φ' σ' w') (hH : RH φ σ w) (hN : NoName φ σ σ') : Marks B φ' σ' w' D := by
  obtain ⟨hB, rs, h1, h2, h3⟩ := m
  refine ⟨Nat.le_trans hB p.size, rs, h1, h2, fun r hr => ?_⟩
  obtain ⟨k1, k2, k3⟩ := h3 r hr
  have hlt := (Array.getElem?_eq_some_iff.1 k2).1
  exact ⟨k1, by rw [p.conc r hlt k3]; exact k2, dead_post p hH hN hlt k3⟩

/-- a new block that has no name -/
theorem post_push (h : RH φ σ w) (o : Obj) : Post φ σ w φ σ (w.alloc o) where
  le := .refl _
  dom _ _ := rfl
  next := Nat.le_refl _
  rh := { blk := fun n B b d hB hφ => (h.blk n B b d hB hφ).congr (push_old w o b (h.lt _ _ _ hφ)), inj := h.inj, fresh := h.fresh,
          lt := fun n b d hφ => by have := h.lt n b d hφ; simp only [World.size_alloc]; omega }
  conc b hb _ := push_old w o b hb
  abs _ _ _ := rfl
  dead _ _ h := h
  newb n b d h1 h2 := by rw [h1] at h2; cases h2
  size := by simp only [World.size_alloc]; omega
  os := rfl
  output := rfl
  tape := rfl

theorem upd_put {b : Nat} {o o' : Obj} (h : w.heap[b]? = some o) : Upd w b o' (w.putObj b o') where
  here := World.putObj_heap_same (Array.getElem?_eq_some_iff.1 h).1
  there b' hb := World.putObj_heap_other hb
  size := by simp
  os := rfl
  output := rfl
  tape := rfl

/-- a block at which nothing with a name lies, turned -/
theorem Post.shut (p : Post φ σ₀ w₀ φ' σ w) {r : Nat} {o o' : Obj} (hr : w₀.heap.size ≤ r) (ho : w.heap[r]? = some o) (hd : ∀ n d, φ' n = some (r, d) → σ.hp.get n = none) :
    Post φ σ₀ w₀ φ' σ (w.putObj r o') := by
  have hu := upd_put (o' := o') ho
  exact {
    le := p.le
    dom := p.dom
    next := p.next
    rh := {
      blk := fun n B b d hB hφ => (p.rh.blk n B b d hB hφ).congr (hu.there b (by
        intro e; subst e; rw [hd n d hφ] at hB; cases hB))
      inj := p.rh.inj
      fresh := p.rh.fresh
      lt := fun n b d hφ => by rw [hu.size]; exact p.rh.lt n b d hφ }
    conc := fun b hb hd' => by rw [hu.there b (by omega)]; exact p.conc b hb hd'
    abs := p.abs
    dead := p.dead
    newb := p.newb
    size := by rw [hu.size]; exact p.size
    os := p.os
    output := p.output
    tape := p.tape }

/-- a record turned -/
theorem post_loop (h : RH φ σ w) {n b : Nat} {d : Nat × Nat} {ps : Array Tmp} {t : List Value} {asg body : Code} {st st' : LoopState} {pe pe' : Option Code} {r : Loop}
    (hB : σ.hp.get n = some (.loop ps t asg body st pe)) (hφ : φ n = some (b, d)) (hr : w.heap[b]? = some (.loop r)) (w' : World)
    (hw : w' = w.putObj b (.loop { r with state := st', pending := pe' })) :
    Post φ σ w φ (σ.with n (some (.loop ps t asg body st' pe'))) w' := by
  subst hw
  obtain ⟨h0, r0, h1, h2, h3, h4, h5, -, -⟩ := h.blk _ _ _ _ hB hφ
  rw [h1] at hr; cases hr
  refine post_upd h hB hφ (upd_put h1) ⟨h0, _, (upd_put h1).here, h2, h3, h4, h5, rfl, rfl⟩

theorem loop_rec (h : RH φ σ w) {n b : Nat} {d : Nat × Nat} {ps : Array Tmp} {t : List Value} {asg body : Code} {st : LoopState} {pe : Option Code}
    (hB : σ.hp.get n = some (.loop ps t asg body st pe)) (hφ : φ n = some (b, d)) :
    d = (0, 0) ∧ ∃ r : Loop, w.heap[b]? = some (.loop r) ∧ RL φ t r.tmps.toList ∧ r.params = ps ∧ r.assign = asg ∧ r.body = body ∧ r.state = st ∧ r.pending = pe :=
  h.blk _ _ _ _ hB hφ

def setPs : List Tmp → List Value → Tm → Tm
  | p :: ps, v :: vs, t => setPs ps vs (t.set p v)
  | _, _, t => t

theorem setPs_rl : ∀ (ps : List Tmp) (vs : List Value) (args : List Value) (t : Tm) (A : Array Value), RL φ vs args → RL φ t A.toList →
    RL φ (setPs ps vs t) ((ps.zip args).foldl (fun (A : Array Value) (x : Tmp × Value) => A.setIfInBounds x.1 x.2) A).toList
  | [], _, _, t, A, _, h => by simpa [setPs] using h
  | p :: ps, [], args, t, A, hv, h => by cases hv; simpa [setPs] using h
  | p :: ps, v :: vs, args, t, A, hv, h => by
    cases hv with
    | cons h1 h2 =>
      simp only [setPs, List.zip_cons_cons, List.foldl_cons]
      refine setPs_rl ps vs _ _ _ h2 ?_
      simp only [Array.toList_setIfInBounds]
      exact h.set h1 p

end Go.Det
