/- Soundness: effects, guards, regions in the text's order. -/
import Derived.Test.YtlgmbpnlakjefaaSyS
import Derived.Tactics
namespace Go.Sy
set_option linter.unusedSimpArgs false
set_option linter.unusedVariables false
set_option linter.unusedSectionVars false

structure SRel (s : Sit) (st : St) (a : Act) : Prop where
  h : HRel s st.h
  t : VRels s st.t a.tmps.toList
  d : a.defers = []
def CallPost (s : Sit) (h : Heap) (K : AV → Heap → List Tch → Prop) (e : Ending) (w' : World) : Prop :=
  ∃ s' v av h' tc, e = .returned v ∧ s'.w = w' ∧ Ev s s' ∧ s.base <+: s'.base ∧ HRel s' h' ∧ VRel s' av v ∧ Un s s' h h' tc ∧ K av h' tc
/-- an effect, or a call -/
def OpOk (P : Program) (s : Sit) (h : Heap) (x : Sem Next) (K : AV → Heap → List Tch → Prop) : Prop :=
  EffOk P s h x K ∨ ∃ g vals, x.run P s.w = .ok (.enter g vals) s.w ∧ Calls P g vals s.w (CallPost s h K)
theorem VRels.array {s : Sit} {l : List AV} {a : Array Value} (h : VRels s l a.toList) {i : Nat} {x : AV} (hx : Sy.nth l i = some x) : ∃ v, a[i]? = some v ∧ VRel s x v := by
  obtain ⟨v, hv, hr⟩ := h.nth hx
  exact ⟨v, by simpa using hv, hr⟩
theorem upd_rel {s : Sit} {t : List AV} {a : Array Value} (h : VRels s t a.toList) (d : Nat) {av : AV} {v : Value} (hv : VRel s av v) : VRels s (upd t d av) (a.setIfInBounds d v).toList := by
  refine VRels.mk (by simp [upd_eq, ← h.length]) fun i x hx => ?_
  rw [nth_upd] at hx
  have hlen := h.length
  simp only [Array.length_toList] at hlen
  simp only [Array.toList_setIfInBounds, List.getElem?_set]
  split at hx
  · rename_i e
    subst e
    cases hn : nth t d with
    | none => rw [hn] at hx; cases hx
    | some y =>
      rw [hn] at hx; simp at hx; subst hx
      have := nth_some_lt hn
      rw [if_pos rfl, if_pos (by simpa using by omega)]
      exact ⟨v, rfl, hv⟩
  · rename_i e
    rw [if_neg e]
    exact h.nth hx
theorem put_rel {s : Sit} {t : List AV} {a : Act} (h : VRels s t a.tmps.toList) (d : Option Nat) {av : AV} {v : Value} (hv : VRel s av v) : VRels s (put t d av) (a.put d v).tmps.toList := by
  cases d with
  | none => exact h
  | some d => exact upd_rel h d hv
theorem put_defers (a : Act) (d : Option Nat) (v : Value) : (a.put d v).defers = a.defers := by cases d <;> rfl
theorem SRel.put {s : Sit} {st : St} {a : Act} (h : SRel s st a) (d : Option Nat) {av : AV} {v : Value} (hv : VRel s av v) : SRel s ⟨Sy.put st.t d av, st.h⟩ (a.put d v) :=
  ⟨h.h, put_rel h.t d hv, by rw [put_defers]; exact h.d⟩
theorem SRel.next {s s' : Sit} {st : St} {a : Act} (h : SRel s st a) (hE : Ev s s') (hp : s.base <+: s'.base) {h' : Heap} (hh : HRel s' h') (d : Option Nat) {av : AV} {v : Value} (hv : VRel s' av v) : SRel s' ⟨Sy.put st.t d av, h'⟩ (a.put d v) :=
  ⟨hh, put_rel (VRels.mono hE hp _ _ h.t) d hv, by rw [put_defers]; exact h.d⟩
theorem run_enter {P : Program} {g : FuncId} (hg : Callable P g) (args : Array Value) (w : World) : (callFunc g args).run P w = .ok (.enter g args) w := by
  obtain ⟨fn, h1, h2, h3⟩ := hg
  simp only [callFunc, Sem.run_bind, run_program, Result.andThen_ok, h1, h2, h3, Bool.false_eq_true, if_false, Sem.run_pure]
section
variable {P : Program} {T : Tab} (hT : TabOk P T) {G : Env} (hG : EnvOk P G)
include hT hG
theorem eff_sound {s : Sit} {st : St} {a : Act} (hs : SRel s st a) {K : AV → Heap → List Tch → Prop} (o : Oper) (he : eEff T G st o.op K) : OpOk P s st.h (execOp a.eval o) K := by
  obtain ⟨dst, op, type, pos, after, guard⟩ := o
  have hh := hs.h
  have ht := hs.t
  simp only at he
  unfold eEff ti at he
  split at he
  · rename_i t
    split at he
    · rename_i d hd
      exact .inl (by simpa only [execOp] using alloc_ok hT hh hd he)
    · exact he.elim
  · exact .inl (by simpa only [execOp] using box_ok hT hh (ev_rel ht _) he)
  · refine .inl ?_
    simp only [execOp]
    refine buildSlice_ok hT hh he ?_
    have := parts_rel ht (by assumption : Array (Nat × Operand)).toList
    simpa using this
  · exact .inl (by simpa only [execOp] using makeSlice_ok hT hh he (ev_rel ht _) (ev_rel ht _))
  · rename_i t x y
    obtain ⟨s', av, v, h', tc, n, r1, r2, r3, r4, r5, r6, r7, r8, tch, rfl, r9⟩ := eStore_ok hT hh he (ev_rel ht x) (ev_rel ht y)
    subst r8
    exact .inl ⟨s', _, v, h', _, n, by simpa only [execOp] using r1, r2, r3, r4, r5, r6, r7, r9⟩
  · rename_i c
    split at he
    · rename_i b hb
      refine .inl ?_
      have hx := evs_rel ht c.args.toList
      obtain ⟨cs, e⟩ : ∃ cs, execOp a.eval { dst := dst, op := .call c, type := type, pos := pos, after := after, guard := guard } = builtin b c.argTypes type cs (c.args.map a.eval) :=
        ⟨_, by simp only [execOp, resolve, hb, pure_bind, invoke]; rfl⟩
      have := builtin_ok hT hh (ty := type) (cs := cs) (us := c.args.map a.eval) he (by simpa using hx)
      rw [e]
      exact this
    · rename_i f hf
      split at he
      · rename_i g fs cs hev
        split at he
        · rename_i C hC
          obtain ⟨hS, hcall⟩ := hG g C hC
          have hfv := ev_rel (a := a) ht f
          rw [hev] at hfv
          simp only [VRel] at hfv
          obtain ⟨fa, ca, hfe, h1, h2⟩ := hfv
          refine .inr ⟨g, fa ++ c.args.map a.eval ++ ca, ?_, ?_⟩
          · simp only [execOp, resolve, hf, hfe, Deferred.ofValue, pure_bind, invoke]
            exact run_enter hcall _ _
          · have hx := evs_rel ht c.args.toList
            have := call_sound hS hh ((h1.append hx).append h2) he
            have e : (fa.toList ++ List.map a.eval c.args.toList ++ ca.toList).toArray = fa ++ c.args.map a.eval ++ ca := by
              apply Array.ext'; simp
            rw [e] at this
            exact this
        · exact he.elim
      · exact he.elim
    · exact he.elim
  · exact he.elim
omit hT hG in
theorem wp_of_op {s : Sit} {h : Heap} {o : Oper} {a : Act} {K : AV → Heap → List Tch → Prop} (hx : OpOk P s h (execOp a.eval o) K) {next : Act → World → Prop} {Q : Exit → Act → World → Prop}
    (hn : ∀ s' v av h' tc, Ev s s' → s.base <+: s'.base → HRel s' h' → VRel s' av v → Un s s' h h' tc → K av h' tc → next (a.put o.dst v) s'.w) : o.wp P a s.w next Q := by
  rcases hx with ⟨s', av, v, h', tc, n, r1, r2, r3, r4, r5, r6, r7, r8⟩ | ⟨g, vals, r1, r2⟩
  · unfold Oper.wp
    rw [r1]
    rcases r2 with rfl | ⟨rfl, rfl⟩
    · exact hn s' v av h' tc r3 r4 r5 r6 r7 r8
    · exact hn s' _ av h' tc r3 r4 r5 r6 r7 r8
  · unfold Oper.wp
    rw [r1]
    refine Calls.mono r2 ?_
    rintro e w' ⟨s', v, av, h', tc, rfl, rfl, r3, r4, r5, r6, r7, r8⟩
    exact hn s' v av h' tc r3 r4 r5 r6 r7 r8
omit hT hG in
theorem guard_ok {s : Sit} {st : St} {a : Act} (hs : SRel s st a) {ops : Array Oper} {o : Oper} {yes no : St → Prop} (hg : eGuard ops.toList st o yes no) :
    (Region.wanted o (yielded ops a.tmps) = true ∧ ∃ st', st'.h = st.h ∧ SRel s st' a ∧ yes st') ∨ (Region.wanted o (yielded ops a.tmps) = false ∧ ∃ st', st'.h = st.h ∧ SRel s st' a ∧ no st') := by
  unfold eGuard at hg
  split at hg
  · rename_i h0
    exact .inl ⟨by simp [Region.wanted, h0], st, rfl, hs, hg⟩
  · rename_i j want h0
    split at hg
    · rename_i oj hj
      rw [nth_eq, Array.getElem?_toList] at hj
      split at hg
      · rename_i d hd
        have hw : ∀ q : Option Bool, yielded ops a.tmps j = q → Region.wanted o (yielded ops a.tmps) = (q == some want) := fun q hq => by simp [Region.wanted, h0, hq]
        split at hg
        · rename_i b hb
          obtain ⟨v, hv, hr⟩ := hs.t.array hb
          simp only [VRel] at hr
          subst hr
          have hy : yielded ops a.tmps j = some b.v := by simp [yielded, hj, hd, hv]
          have hw := hw _ hy
          split at hg
          · rename_i x
            simp only [BX.v] at hw
            split at hg
            · exact .inl ⟨by rw [hw]; rfl, st, rfl, hs, hg⟩
            · exact .inl ⟨by rw [hw]; rfl, st, rfl, hs, hg⟩
            · rename_i h1 h2
              refine .inr ⟨?_, st, rfl, hs, hg⟩
              rw [hw]
              cases x <;> cases want <;> simp_all
          · rename_i f
            simp only [BX.v] at hw
            cases hg with
            | mk h1 h2 =>
              have put : ∀ x, f () = x → SRel s ⟨upd st.t d (.bool (.l x)), st.h⟩ a := fun x hx => by
                refine ⟨hs.h, ?_, hs.d⟩
                have := upd_rel hs.t d (av := .bool (.l x)) (v := .bool x) (by simp [VRel, BX.v])
                have e : a.tmps.setIfInBounds d (.bool x) = a.tmps := by
                  rw [← hx]
                  apply Array.ext
                  · simp
                  · intro i h1 h2
                    rw [Array.getElem_setIfInBounds]
                    split
                    · rename_i e
                      subst e
                      have := (Array.getElem?_eq_some_iff.1 hv).2
                      rw [this]; rfl
                    · rfl
                rw [e] at this
                exact this
              cases hf : f () with
              | true =>
                have h1 := h1 hf
                rw [hf] at hw
                cases want with
                | true => exact .inl ⟨by rw [hw]; rfl, ⟨upd st.t d (.bool (.l true)), st.h⟩, rfl, put _ hf, h1⟩
                | false => exact .inr ⟨by rw [hw]; rfl, ⟨upd st.t d (.bool (.l true)), st.h⟩, rfl, put _ hf, h1⟩
              | false =>
                have h2 := h2 hf
                rw [hf] at hw
                cases want with
                | true => exact .inr ⟨by rw [hw]; rfl, ⟨upd st.t d (.bool (.l false)), st.h⟩, rfl, put _ hf, h2⟩
                | false => exact .inl ⟨by rw [hw]; rfl, ⟨upd st.t d (.bool (.l false)), st.h⟩, rfl, put _ hf, h2⟩
        · rename_i hb
          obtain ⟨v, hv, hr⟩ := hs.t.array hb
          simp only [VRel, VRels] at hr
          obtain ⟨_, rfl, _⟩ := hr
          have hy : yielded ops a.tmps j = none := by simp [yielded, hj, hd, hv]
          exact .inr ⟨by rw [hw _ hy]; rfl, st, rfl, hs, hg⟩
        · exact hg.elim
      · exact hg.elim
    · exact hg.elim
/-- one operation that is carried out -/
theorem step_sound {s : Sit} {st : St} {a : Act} (hs : SRel s st a) {o : Oper} {K : St → List Tch → List Tch → Prop} (he : eStep T G st o K) {next : Act → World → Prop} {Q : Exit → Act → World → Prop}
    (hn : ∀ s' st' r tc a', Ev s s' → s.base <+: s'.base → SRel s' st' a' → Un s s' st.h st'.h tc → K st' r tc → next a' s'.w) : o.wp P a s.w next Q := by
  unfold eStep at he
  split at he
  · obtain ⟨av, v, h1, h2, h3⟩ := ePure_sound hT hs.t hs.h o he
    unfold Oper.wp
    rw [h1]
    exact hn s _ _ _ _ (Ev.refl s) (prefix_refl' _) (hs.put o.dst h2) (fun _ _ hl => ⟨hl, fun _ _ => rfl⟩) h3
  · split at he
    · rename_i t x hop
      obtain ⟨av, v, r, h1, h2, h3, h4⟩ := eLoad_ok hT hs.h he (ev_rel hs.t x)
      have e : (execOp a.eval o).run P s.w = .ok (.value v) s.w := by
        simp only [execOp, hop, Sem.run_bind, h1 s.w (fun _ _ => rfl), Result.andThen_ok]; rfl
      unfold Oper.wp
      rw [e]
      exact hn s _ _ _ _ (Ev.refl s) (prefix_refl' _) (hs.put o.dst h2) (fun _ _ hl => ⟨hl, fun _ _ => rfl⟩) h3
    · exact wp_of_op (eff_sound hT hG hs o he) fun s' v av h' tc e1 e2 e3 e4 e5 e6 => hn s' _ _ _ _ e1 e2 (hs.next e1 e2 e3 o.dst e4) e5 e6
theorem ops_sound {ops : Array Oper} {Q : Exit → Act → World → Prop} : ∀ (l : List Oper) (s : Sit) (st : St) (a : Act) (K : St → Prop), SRel s st a → eOps T G ops.toList l st K →
    (∀ s' st' a', Ev s s' → s.base <+: s'.base → SRel s' st' a' → K st' → Q .normal a' s'.w) → wpList P ops Q l a s.w
  | [], s, st, a, K, hs, he, hq => hq s st a (Ev.refl s) (prefix_refl' _) hs he
  | o :: rest, s, st, a, K, hs, he, hq => by
    unfold eOps at he
    unfold wpList
    rcases guard_ok hs he with ⟨hw, st', _, hs', he⟩ | ⟨hw, st', _, hs', he⟩
    · rw [if_pos hw]
      refine .inl (step_sound hT hG hs' he fun s2 st2 r tc a2 e1 e2 e3 e4 e5 => ?_)
      exact ops_sound rest s2 st2 a2 K e3 e5 fun s3 st3 a3 f1 f2 f3 f4 => hq s3 st3 a3 (e1.trans f1) (e2.trans f2) f3 f4
    · rw [if_neg (by rw [hw]; simp)]
      exact ops_sound rest s _ _ K (hs'.put o.dst (undef_rel s)) he hq
end
end Go.Sy
