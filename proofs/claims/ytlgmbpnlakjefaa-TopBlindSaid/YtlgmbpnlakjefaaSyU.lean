/- Soundness: regions whose order Go leaves open: pure operations and loads are taken early. -/
import Derived.Test.YtlgmbpnlakjefaaSyT
import Derived.Orders
namespace Go.Sy
set_option linter.unusedSimpArgs false
set_option linter.unusedVariables false
set_option linter.unusedSectionVars false
open Region (ready binds)

/-- the static premise: operations of which neither waits for the other touch no slot of each other's -/
def regOk (ops : Array Oper) : Bool :=
  Region.noSelect ops && (List.range ops.size).all fun i => (List.range ops.size).all fun j => i == j || match ops[i]?, ops[j]? with
    | some oi, some oj => oi.after.any (fun e => binds .any e && e.on == j) || oj.after.any (fun e => binds .any e && e.on == i) || oi.apart ops oj
    | _, _ => true
theorem regOk_spec {ops : Array Oper} (h : regOk ops = true) : Region.noSelect ops = true ∧ ∀ i j oi oj, i ≠ j → ops[i]? = some oi → ops[j]? = some oj →
    (∃ e ∈ oi.after, binds .any e = true ∧ e.on = j) ∨ (∃ e ∈ oj.after, binds .any e = true ∧ e.on = i) ∨ oi.apart ops oj = true := by
  unfold regOk at h
  rw [Bool.and_eq_true] at h
  refine ⟨h.1, fun i j oi oj hne hi hj => ?_⟩
  have h2 := h.2
  simp only [List.all_eq_true, List.mem_range] at h2
  have h3 := h2 i (Array.getElem?_eq_some_iff.1 hi).1 j (Array.getElem?_eq_some_iff.1 hj).1
  simp only [hi, hj, Bool.or_eq_true, beq_iff_eq, hne, false_or] at h3
  rcases h3 with (h3 | h3) | h3
  · obtain ⟨e, he, hb⟩ := Array.any_eq_true'.1 h3
    simp only [Bool.and_eq_true, beq_iff_eq] at hb
    exact .inl ⟨e, he, hb.1, hb.2⟩
  · obtain ⟨e, he, hb⟩ := Array.any_eq_true'.1 h3
    simp only [Bool.and_eq_true, beq_iff_eq] at hb
    exact .inr (.inl ⟨e, he, hb.1, hb.2⟩)
  · exact .inr (.inr h3)
section
variable {P : Program} {ops : Array Oper} {Q : Exit → Act → World → Prop}
/-- all orders, with an invariant of the listed ones and the world -/
def wpAnyI (P : Program) (ops : Array Oper) (Q : Exit → Act → World → Prop) (I : Array Bool → World → Prop) : Nat → Array Bool → Act → World → Prop
  | 0, L, a, w => I L w ∧ ready .any ops L = [] ∧ Q .normal a w
  | n + 1, L, a, w => I L w ∧ (ready .any ops L = [] → Q .normal a w) ∧ ∀ i ∈ ready .any ops L, wpOp P ops Q i (wpAnyI P ops Q I n (L.setIfInBounds i true)) a w
theorem wpAny_of_I {I : Array Bool → World → Prop} : ∀ (n : Nat) (L : Array Bool) (a : Act) (w : World), wpAnyI P ops Q I n L a w → wpAny P .any ops Q n L a w
  | 0, _, _, _, h => h.2
  | n + 1, L, a, w, h => ⟨h.2.1, fun i hi => wpOp_mono (fun a w => wpAny_of_I n _ a w) (h.2.2 i hi)⟩
theorem wpAnyI_mono {I I' : Array Bool → World → Prop} (hI : ∀ L w, I' L w → I L w) : ∀ (n : Nat) (L : Array Bool) (a : Act) (w : World), wpAnyI P ops Q I' n L a w → wpAnyI P ops Q I n L a w
  | 0, _, _, _, h => ⟨hI _ _ h.1, h.2⟩
  | n + 1, L, a, w, h => ⟨hI _ _ h.1, h.2.1, fun i hi => wpOp_mono (fun a w => wpAnyI_mono hI n _ a w) (h.2.2 i hi)⟩
theorem wpAnyI_now {I : Array Bool → World → Prop} {n : Nat} {L : Array Bool} {a : Act} {w : World} (h : wpAnyI P ops Q I n L a w) : I L w := by
  cases n with
  | zero => exact h.1
  | succ n => exact h.1
/-- in the worlds of S the operation yields v and leaves the world -/
def YieldsIn (P : Program) (ops : Array Oper) (S : World → Prop) (o : Oper) (v : Value) (a : Act) : Prop :=
  (Region.wanted o (yielded ops a.tmps) = true ∧ ∀ w, S w → (execOp a.eval o).run P w = .ok (.value v) w) ∨ (Region.wanted o (yielded ops a.tmps) = false ∧ v = undef)
theorem YieldsIn.wpOp {S : World → Prop} {i : Nat} {o : Oper} {v : Value} {a : Act} (hi : ops[i]? = some o) (hy : YieldsIn P ops S o v a) {K : Act → World → Prop} {w : World} (hS : S w) (h : K (a.put o.dst v) w) :
    wpOp P ops Q i K a w := by
  unfold Go.wpOp
  simp only [hi]
  rcases hy with ⟨hw, hv⟩ | ⟨hw, rfl⟩
  · rw [if_pos hw]
    refine .inl ?_
    unfold Oper.wp
    rw [hv w hS]
    exact h
  · rw [if_neg (by rw [hw]; simp)]
    exact h
/-- another operation runs first -/
theorem swapOp {S : World → Prop} {j : Nat} {oi oj : Oper} {v : Value} (hj : ops[j]? = some oj) (hap : oi.apart ops oj = true) (hsi : ∀ cs b, oi.op ≠ .select cs b) (hsj : ∀ cs b, oj.op ≠ .select cs b)
    (hQ : ∀ c a w, ¬ Q (.panic c) a w) (hO : ¬ LetsOut Q) {K : Act → World → Prop} {a : Act} {w : World} (hy : YieldsIn P ops S oi v a) (h : wpOp P ops Q j K (a.put oi.dst v) w) :
    wpOp P ops Q j (fun a' w' => YieldsIn P ops S oi v a' ∧ K (a'.put oi.dst v) w') a w := by
  obtain ⟨h1, h2, h3⟩ := Oper.apart_spec hap
  have same : ∀ a', execOp a'.eval oi = execOp a.eval oi → Region.wanted oi (yielded ops a'.tmps) = Region.wanted oi (yielded ops a.tmps) → YieldsIn P ops S oi v a' := fun a' e1 e2 => by
    unfold YieldsIn at hy ⊢
    rw [e1, e2]; exact hy
  have keep : ∀ u, YieldsIn P ops S oi v (a.put oj.dst u) := fun u => same _ (execOp_put oi hsi a oj.dst u h3) (wanted_put oi a oj.dst u h3)
  unfold Go.wpOp at h ⊢
  simp only [hj] at h ⊢
  rw [wanted_put oj a oi.dst v h1] at h
  split at h
  · rename_i hw
    rw [if_pos hw]
    rcases h with h | ⟨_, h⟩
    · refine .inl ?_
      unfold Oper.wp at h ⊢
      rw [execOp_put oj hsj a oi.dst v h1] at h
      revert h
      generalize (execOp a.eval oj).run P w = r
      intro h
      have comm : ∀ u w', K ((a.put oi.dst v).put oj.dst u) w' → K ((a.put oj.dst u).put oi.dst v) w' := fun u w' hk => by
        rw [Act.put_comm a v u h2] at hk; exact hk
      cases r with
      | ok n w' =>
        cases n <;> simp only [Oper.upon] at h ⊢
        case value u => exact ⟨keep u, comm u w' h⟩
        case skip => exact ⟨keep undef, comm undef w' h⟩
        case defer d =>
          refine ⟨?_, ?_⟩
          · exact same _ (execOp_put oi hsi { a with defers := d :: a.defers } oj.dst undef h3) (wanted_put oi { a with defers := d :: a.defers } oj.dst undef h3)
          · rw [← Act.put_comm _ v undef h2, ← Act.put_defers]
            exact h
        case enter f args =>
          refine Calls.mono h fun e w'' he => ?_
          cases e with
          | returned u => exact ⟨keep u, comm u w'' he⟩
          | panicked c => exact absurd he (hQ _ _ _)
          | outgrown => exact he
        case row row args => exact Rows.mono h fun u w'' he => ⟨keep u, comm u w'' he⟩
      | halt x w' =>
        cases x <;> simp only [Oper.upon] at h ⊢
        case panic u => exact absurd h (hQ _ _ _)
    · exact absurd h hO
  · rename_i hw
    rw [if_neg hw]
    refine ⟨keep undef, ?_⟩
    rw [Act.put_comm a v undef h2] at h; exact h
theorem getD_of {L : Array Bool} {i : Nat} (h : L.getD i true = false) : L.getD i false = false := by
  by_cases hi : i < L.size
  · simp [hi] at h ⊢; exact h
  · simp [hi] at h
/-- An operation that changes nothing, and whose answer holds as long as 'S' does, may be thought to run first. -/
theorem firstI {i : Nat} {oi : Oper} {v : Value} {S : World → Prop} {I I' : Array Bool → World → Prop} {F : Nat → Prop} (hi : ops[i]? = some oi) (hsel : ∀ (j : Nat) (o : Oper) cs b, ops[j]? = some o → o.op ≠ .select cs b)
    (hQ : ∀ c a w, ¬ Q (.panic c) a w) (hO : ¬ LetsOut Q)
    (hF : ∀ d, F d → ∀ o, ops[d]? = some o → ∃ e ∈ o.after, binds .any e = true ∧ (e.on = i ∨ F e.on))
    (hI1 : ∀ (L : Array Bool) w, I' (L.setIfInBounds i true) w → I L w) (hI2 : ∀ L w, I' L w → I L w) (hS : ∀ (L : Array Bool) w, L.getD i true = false → (∀ d, F d → L.getD d false = false) → I' (L.setIfInBounds i true) w → S w) :
    ∀ (fuel : Nat) (L : Array Bool) (a : Act) (w : World),
      (∀ j oj, ops[j]? = some oj → j ≠ i → L.getD j true = false → (∀ e ∈ oj.after, binds .any e = true → e.on ≠ i) → oi.apart ops oj = true) →
      i ∈ ready .any ops L → (∀ d, F d → L.getD d false = false) → YieldsIn P ops S oi v a →
      wpAnyI P ops Q I' fuel (L.setIfInBounds i true) (a.put oi.dst v) w → wpAnyI P ops Q I (fuel + 1) L a w := by
  intro fuel
  induction fuel with
  | zero =>
    intro L a w _ hr hf hy H
    have hun := (mem_ready.1 hr).1
    refine ⟨hI1 _ _ H.1, fun h => (by rw [h] at hr; cases hr), fun j hj => ?_⟩
    by_cases hji : j = i
    · subst hji
      exact hy.wpOp hi (hS L w hun hf H.1) (wpAnyI_mono hI2 _ _ _ _ H)
    · have := ready_mono hj hji
      rw [H.2.1] at this
      cases this
  | succ fuel ih =>
    intro L a w hfree hr hf hy H
    have hun := (mem_ready.1 hr).1
    refine ⟨hI1 _ _ H.1, fun h => (by rw [h] at hr; cases hr), fun j hj => ?_⟩
    by_cases hji : j = i
    · subst hji
      exact hy.wpOp hi (hS L w hun hf H.1) (wpAnyI_mono hI2 _ _ _ _ H)
    · have h1 := H.2.2 j (ready_mono hj hji)
      obtain ⟨hjun, oj, hoj, hall⟩ := mem_ready.1 hj
      have hnot : ∀ e ∈ oj.after, binds .any e = true → e.on ≠ i := fun e he hb heq => by
        have h1 := hall e he hb
        rw [heq, getD_of hun] at h1
        cases h1
      have h2 := swapOp hoj (hfree j oj hoj hji hjun hnot) (fun cs b => hsel i oi cs b hi) (fun cs b => hsel j oj cs b hoj) hQ hO hy h1
      have hFj : ¬ F j := fun hFj => by
        obtain ⟨e, he, hb, h3⟩ := hF j hFj oj hoj
        have h4 := hall e he hb
        rcases h3 with h3 | h3
        · exact hnot e he hb h3
        · rw [hf _ h3] at h4; cases h4
      refine wpOp_mono (fun a' w' h3 => ih (L.setIfInBounds j true) a' w' (fun k ok hk hki hunk hno => ?_) (ready_mono hr (Ne.symm hji)) (fun d hd => ?_) h3.1 ?_) h2
      · refine hfree k ok hk hki ?_ hno
        by_cases hjk : j = k
        · subst hjk; exact hjun
        · rw [getD_set_ne true hjk] at hunk; exact hunk
      · rw [getD_set_ne false (fun e : j = d => hFj (by rw [e]; exact hd))]
        exact hf d hd
      · rw [Array.setIfInBounds_comm _ _ hji]
        exact h3.2
end
/-! ### the books -/
def effIdx (ops : Array Oper) (d : Nat) : Prop := ∃ o, ops[d]? = some o ∧ isPure o.op = false ∧ isLoad o.op = false
structure SOb where
  deps : List Nat
  foot : Addr → Prop
  w0 : World
def Obs (ops : Array Oper) (sobs : List SOb) (L : Array Bool) (w : World) : Prop :=
  ∀ ob ∈ sobs, (∃ d ∈ ob.deps, effIdx ops d ∧ L.getD d false = true) ∨ ∀ ad, ob.foot ad → w.cell? ad = ob.w0.cell? ad
structure LRel (ops : Array Oper) (L : Array Bool) (done eff : List Nat) (left : List (Nat × Oper)) : Prop where
  size : L.size = ops.size
  lft : ∀ p ∈ left, ops[p.1]? = some p.2 ∧ L.getD p.1 true = false
  conv : ∀ j o, ops[j]? = some o → L.getD j true = false → (j, o) ∈ left
  done : ∀ j, memN done j = true ↔ L.getD j false = true
  eff : ∀ d ∈ eff, effIdx ops d ∧ L.getD d false = true
  nodup : (left.map (·.1)).Nodup
def ObsOk (sobs : List SOb) (obs : List Ob) (eff : List Nat) (s : Sit) (h : Heap) : Prop :=
  ∀ ob ∈ sobs, (∃ d ∈ ob.deps, d ∈ eff) ∨ ∃ o ∈ obs, o.deps = ob.deps ∧ Live h o.tch.id ∧ (∀ ad, ob.foot ad → Foot s o.tch ad) ∧ ∀ ad, ob.foot ad → s.w.cell? ad = ob.w0.cell? ad
theorem ObsOk.now {ops : Array Oper} {sobs : List SOb} {obs : List Ob} {eff done : List Nat} {left : List (Nat × Oper)} {s : Sit} {h : Heap} {L : Array Bool} (hL : LRel ops L done eff left) (ho : ObsOk sobs obs eff s h) : Obs ops sobs L s.w := by
  intro ob hob
  rcases ho ob hob with ⟨d, h1, h2⟩ | ⟨o, _, _, _, _, h5⟩
  · exact .inl ⟨d, h1, hL.eff d h2⟩
  · exact .inr h5
theorem mem_del {n : Nat} : ∀ {l : List (Nat × Oper)} {p : Nat × Oper}, p ∈ del n l → p ∈ l
  | [], p, h => by cases h
  | q :: l, p, h => by
    simp only [del] at h
    split at h
    · exact List.mem_cons_of_mem _ h
    · rcases List.mem_cons.1 h with rfl | h
      · exact List.mem_cons_self
      · exact List.mem_cons_of_mem _ (mem_del h)
theorem del_spec {n : Nat} : ∀ {l : List (Nat × Oper)}, (l.map (·.1)).Nodup → (∀ p, p ∈ del n l ↔ p ∈ l ∧ p.1 ≠ n) ∧ ((del n l).map (·.1)).Nodup ∧ ((∃ o, (n, o) ∈ l) → l.length = (del n l).length + 1)
  | [], _ => ⟨fun p => by simp [del], by simp [del], fun ⟨o, h⟩ => by cases h⟩
  | q :: l, h => by
    simp only [List.map_cons, List.nodup_cons] at h
    obtain ⟨ih1, ih2, ih3⟩ := del_spec (n := n) h.2
    simp only [del]
    split
    · rename_i hq
      have hq := Nat.eq_of_beq_eq_true hq
      subst hq
      refine ⟨fun p => ?_, h.2, fun _ => by simp⟩
      constructor
      · intro hp
        exact ⟨List.mem_cons_of_mem _ hp, fun e => h.1 (List.mem_map.2 ⟨p, hp, e⟩)⟩
      · rintro ⟨hp, hne⟩
        rcases List.mem_cons.1 hp with rfl | hp
        · exact absurd rfl hne
        · exact hp
    · rename_i hq
      have hq : q.1 ≠ n := fun e => by rw [e, Nat.beq_refl] at hq; cases hq
      refine ⟨fun p => ?_, ?_, ?_⟩
      · rw [List.mem_cons, ih1, List.mem_cons]
        constructor
        · rintro (rfl | ⟨h1, h2⟩)
          · exact ⟨.inl rfl, hq⟩
          · exact ⟨.inr h1, h2⟩
        · rintro ⟨rfl | h1, h2⟩
          · exact .inl rfl
          · exact .inr ⟨h1, h2⟩
      · simp only [List.map_cons, List.nodup_cons]
        refine ⟨fun hm => ?_, ih2⟩
        obtain ⟨p, hp, e⟩ := List.mem_map.1 hm
        exact h.1 (List.mem_map.2 ⟨p, mem_del hp, e⟩)
      · rintro ⟨o, ho⟩
        rcases List.mem_cons.1 ho with e | ho
        · rw [← e] at hq; exact absurd rfl hq
        · simp [ih3 ⟨o, ho⟩]
theorem LRel.step {ops : Array Oper} {L : Array Bool} {done eff : List Nat} {left : List (Nat × Oper)} (h : LRel ops L done eff left) {p : Nat × Oper} (hp : p ∈ left) {eff' : List Nat} (he : eff' = eff ∨ eff' = p.1 :: eff ∧ isPure p.2.op = false ∧ isLoad p.2.op = false) :
    LRel ops (L.setIfInBounds p.1 true) (p.1 :: done) eff' (del p.1 left) ∧ left.length = (del p.1 left).length + 1 := by
  obtain ⟨h1, h2⟩ := h.lft p hp
  obtain ⟨d1, d2, d3⟩ := del_spec (n := p.1) h.nodup
  have hlt : p.1 < L.size := by rw [h.size]; exact (Array.getElem?_eq_some_iff.1 h1).1
  have hset : (L.setIfInBounds p.1 true).getD p.1 false = true := by simp [hlt]
  refine ⟨⟨by simp [h.size], ?_, ?_, ?_, ?_, d2⟩, d3 ⟨p.2, hp⟩⟩
  · intro q hq
    obtain ⟨q1, q2⟩ := (d1 q).1 hq
    obtain ⟨q3, q4⟩ := h.lft q q1
    exact ⟨q3, by rw [getD_set_ne true (fun e => q2 e.symm)]; exact q4⟩
  · intro j o hj hun
    by_cases e : p.1 = j
    · subst e
      simp [hlt] at hun
    · rw [getD_set_ne true e] at hun
      exact (d1 _).2 ⟨h.conv j o hj hun, fun e' => e e'.symm⟩
  · intro j
    simp only [memN]
    by_cases e : p.1 = j
    · subst e
      simp [hset, Nat.beq_refl]
    · have : Nat.beq p.1 j = false := by
        cases hb : Nat.beq p.1 j
        · rfl
        · exact absurd (Nat.eq_of_beq_eq_true hb) e
      rw [this, getD_set_ne false e]
      exact h.done j
  · intro d hd
    rcases he with rfl | ⟨rfl, he1, he2⟩
    · obtain ⟨g1, g2⟩ := h.eff d hd
      exact ⟨g1, getD_set_true g2⟩
    · rcases List.mem_cons.1 hd with rfl | hd
      · exact ⟨⟨p.2, h1, he1, he2⟩, hset⟩
      · obtain ⟨g1, g2⟩ := h.eff d hd
        exact ⟨g1, getD_set_true g2⟩
theorem bnd_eq (e : Edge) : bnd e = binds .any e := by unfold bnd binds; cases e.ground <;> rfl
theorem sat_iff (done : List Nat) : ∀ l : List Edge, sat done l = true ↔ ∀ e ∈ l, binds .any e = true → memN done e.on = true
  | [] => by simp [sat]
  | e :: l => by
    have ih := sat_iff done l
    simp only [sat, List.forall_mem_cons, ← bnd_eq e]
    cases hb : bnd e with
    | false => simp [ih]
    | true =>
      cases hm : memN done e.on with
      | true => simp [ih]
      | false => simp
theorem mem_readys {done : List Nat} {p : Nat × Oper} : ∀ {l : List (Nat × Oper)}, p ∈ readys done l ↔ p ∈ l ∧ sat done p.2.after.toList = true
  | [] => by simp [readys]
  | q :: l => by
    simp only [readys]
    cases hs : sat done q.2.after.toList with
    | true =>
      simp only [List.mem_cons, mem_readys (l := l)]
      constructor
      · rintro (rfl | ⟨h1, h2⟩)
        · exact ⟨.inl rfl, hs⟩
        · exact ⟨.inr h1, h2⟩
      · rintro ⟨rfl | h1, h2⟩
        · exact .inl rfl
        · exact .inr ⟨h1, h2⟩
    | false =>
      simp only [List.mem_cons, mem_readys (l := l)]
      constructor
      · rintro ⟨h1, h2⟩; exact ⟨.inr h1, h2⟩
      · rintro ⟨rfl | h1, h2⟩
        · rw [hs] at h2; cases h2
        · exact ⟨h1, h2⟩
theorem ready_iff {ops : Array Oper} {L : Array Bool} {done eff : List Nat} {left : List (Nat × Oper)} (h : LRel ops L done eff left) (i : Nat) : i ∈ ready .any ops L ↔ ∃ o, (i, o) ∈ readys done left := by
  rw [mem_ready]
  constructor
  · rintro ⟨h1, o, ho, h2⟩
    refine ⟨o, mem_readys.2 ⟨h.conv i o ho h1, (sat_iff _ _).2 fun e he hb => ?_⟩⟩
    exact (h.done _).2 (h2 e (by simpa using he) hb)
  · rintro ⟨o, ho⟩
    obtain ⟨h1, h2⟩ := mem_readys.1 ho
    obtain ⟨h3, h4⟩ := h.lft _ h1
    exact ⟨h4, o, h3, fun e he hb => (h.done _).1 ((sat_iff _ _).1 h2 e (by simpa using he) hb)⟩
theorem waitsFor_spec (ds : List Nat) : ∀ l : List Edge, waitsFor ds l = true → ∃ e ∈ l, binds .any e = true ∧ e.on ∈ ds
  | [], h => by cases h
  | e :: l, h => by
    simp only [waitsFor] at h
    split at h
    · obtain ⟨e', h1, h2⟩ := waitsFor_spec ds l h
      exact ⟨e', List.mem_cons_of_mem _ h1, h2⟩
    · rename_i hb
      split at h
      · rename_i hm
        exact ⟨e, List.mem_cons_self, by rw [← bnd_eq]; exact hb, (memN_iff _ _).1 hm⟩
      · obtain ⟨e', h1, h2⟩ := waitsFor_spec ds l h
        exact ⟨e', List.mem_cons_of_mem _ h1, h2⟩
theorem followers_spec (i : Nat) : ∀ (l : List (Nat × Oper)) (ds : List Nat), (∀ d ∈ ds, d ∈ followers i l ds) ∧
    ∀ d ∈ followers i l ds, d ∈ ds ∨ ∃ o, (d, o) ∈ l ∧ ∃ e ∈ o.after.toList, binds .any e = true ∧ (e.on = i ∨ e.on ∈ followers i l ds)
  | [], ds => ⟨fun d h => by simpa [followers] using h, fun d h => .inl (by simpa [followers] using h)⟩
  | p :: l, ds => by
    simp only [followers]
    split
    · rename_i hw
      obtain ⟨h1, h2⟩ := followers_spec i l (p.1 :: ds)
      refine ⟨fun d hd => h1 d (List.mem_cons_of_mem _ hd), fun d hd => ?_⟩
      rcases h2 d hd with h3 | ⟨o, ho, h3⟩
      · rcases List.mem_cons.1 h3 with rfl | h3
        · obtain ⟨e, he, hb, hm⟩ := waitsFor_spec _ _ hw
          refine .inr ⟨p.2, List.mem_cons_self, e, he, hb, ?_⟩
          rcases List.mem_cons.1 hm with h | h
          · exact .inl h
          · exact .inr (h1 _ (List.mem_cons_of_mem _ h))
        · exact .inl h3
      · exact .inr ⟨o, List.mem_cons_of_mem _ ho, h3⟩
    · obtain ⟨h1, h2⟩ := followers_spec i l ds
      refine ⟨h1, fun d hd => ?_⟩
      rcases h2 d hd with h3 | ⟨o, ho, h3⟩
      · exact .inl h3
      · exact .inr ⟨o, List.mem_cons_of_mem _ ho, h3⟩
theorem firstPure_spec : ∀ {l : List (Nat × Oper)} {p : Nat × Oper}, firstPure l = some p → p ∈ l ∧ isPure p.2.op = true
  | [], p, h => by cases h
  | q :: l, p, h => by
    simp only [firstPure] at h
    split at h
    · simp at h; subst h; exact ⟨List.mem_cons_self, ‹_›⟩
    · obtain ⟨h1, h2⟩ := firstPure_spec h
      exact ⟨List.mem_cons_of_mem _ h1, h2⟩
theorem firstPure_none : ∀ {l : List (Nat × Oper)}, firstPure l = none → ∀ p ∈ l, isPure p.2.op = false
  | [], _, p, h => by cases h
  | q :: l, hn, p, h => by
    simp only [firstPure] at hn
    split at hn
    · cases hn
    · rename_i hq
      rcases List.mem_cons.1 h with rfl | h
      · exact hq
      · exact firstPure_none hn p h
theorem firstLoad_spec : ∀ {l : List (Nat × Oper)} {p : Nat × Oper}, firstLoad l = some p → p ∈ l ∧ isLoad p.2.op = true
  | [], p, h => by cases h
  | q :: l, p, h => by
    simp only [firstLoad] at h
    split at h
    · simp at h; subst h; exact ⟨List.mem_cons_self, ‹_›⟩
    · obtain ⟨h1, h2⟩ := firstLoad_spec h
      exact ⟨List.mem_cons_of_mem _ h1, h2⟩
theorem firstLoad_none : ∀ {l : List (Nat × Oper)}, firstLoad l = none → ∀ p ∈ l, isLoad p.2.op = false
  | [], _, p, h => by cases h
  | q :: l, hn, p, h => by
    simp only [firstLoad] at hn
    split at hn
    · cases hn
    · rename_i hq
      rcases List.mem_cons.1 h with rfl | h
      · exact hq
      · exact firstLoad_none hn p h
theorem allOf_mem {F : Nat × Oper → Prop} : ∀ {l : List (Nat × Oper)}, allOf F l → ∀ p ∈ l, F p
  | [], _, p, h => by cases h
  | [q], hq, p, h => by
    simp at h; subst h; exact hq
  | q :: r :: l, hq, p, h => by
    simp only [allOf] at hq
    rcases List.mem_cons.1 h with rfl | h
    · exact hq.1
    · exact allOf_mem hq.2 p h
end Go.Sy
