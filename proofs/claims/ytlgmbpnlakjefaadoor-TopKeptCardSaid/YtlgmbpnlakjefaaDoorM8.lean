/- Put together by a program of this work out of its texts SyT, SyU, SyV. -/
import Derived.Test.YtlgmbpnlakjefaaDoorM7
import Derived.Tactics
import Derived.Orders
section
/- Soundness: effects, guards, regions in the text's order. -/
namespace Go.Sy
set_option linter.unusedSimpArgs false
set_option linter.unusedVariables false
set_option linter.unusedSectionVars false

structure SRel (s : Sit) (st : St) (a : Act) : Prop where
  h : HRel s st.h
  t : VRels s st.t a.tmps.toList
  d : a.defers = []
def CallPost (s : Sit) (h : Heap) (K : AV → Heap → List Tch → Prop) (e : Ending) (w' : World) : Prop :=
  ∃ s' v av h' tc, e = .returned v ∧ s'.w = w' ∧ Ev s s' ∧ s.base <+: s'.base ∧ HRel s' h' ∧ VRel s' av v ∧ Un s s' h h' tc ∧ K av h' tc
/-- an effect, or a call -/
def OpOk (P : Program) (s : Sit) (h : Heap) (x : Sem Next) (K : AV → Heap → List Tch → Prop) : Prop :=
  EffOk P s h x K ∨ ∃ g vals, x.run P s.w = .ok (.enter g vals) s.w ∧ Calls P g vals s.w (CallPost s h K)
theorem VRels.array {s : Sit} {l : List AV} {a : Array Value} (h : VRels s l a.toList) {i : Nat} {x : AV} (hx : Sy.nth l i = some x) : ∃ v, a[i]? = some v ∧ VRel s x v := by
  obtain ⟨v, hv, hr⟩ := h.nth hx
  exact ⟨v, by simpa using hv, hr⟩
theorem upd_rel {s : Sit} {t : List AV} {a : Array Value} (h : VRels s t a.toList) (d : Nat) {av : AV} {v : Value} (hv : VRel s av v) : VRels s (upd t d av) (a.setIfInBounds d v).toList := by
  refine VRels.mk (by simp [upd_eq, ← h.length]) fun i x hx => ?_
  rw [nth_upd] at hx
  have hlen := h.length
  simp only [Array.length_toList] at hlen
  simp only [Array.toList_setIfInBounds, List.getElem?_set]
  split at hx
  · rename_i e
    subst e
    cases hn : nth t d with
    | none => rw [hn] at hx; cases hx
    | some y =>
      rw [hn] at hx; simp at hx; subst hx
      have := nth_some_lt hn
      rw [if_pos rfl, if_pos (by simpa using by omega)]
      exact ⟨v, rfl, hv⟩
  · rename_i e
    rw [if_neg e]
    exact h.nth hx
theorem put_rel {s : Sit} {t : List AV} {a : Act} (h : VRels s t a.tmps.toList) (d : Option Nat) {av : AV} {v : Value} (hv : VRel s av v) : VRels s (put t d av) (a.put d v).tmps.toList := by
  cases d with
  | none => exact h
  | some d => exact upd_rel h d hv
theorem put_defers (a : Act) (d : Option Nat) (v : Value) : (a.put d v).defers = a.defers := by cases d <;> rfl
theorem SRel.put {s : Sit} {st : St} {a : Act} (h : SRel s st a) (d : Option Nat) {av : AV} {v : Value} (hv : VRel s av v) : SRel s ⟨Sy.put st.t d av, st.h⟩ (a.put d v) :=
  ⟨h.h, put_rel h.t d hv, by rw [put_defers]; exact h.d⟩
theorem SRel.next {s s' : Sit} {st : St} {a : Act} (h : SRel s st a) (hE : Ev s s') (hp : s.base <+: s'.base) {h' : Heap} (hh : HRel s' h') (d : Option Nat) {av : AV} {v : Value} (hv : VRel s' av v) : SRel s' ⟨Sy.put st.t d av, h'⟩ (a.put d v) :=
  ⟨hh, put_rel (VRels.mono hE hp _ _ h.t) d hv, by rw [put_defers]; exact h.d⟩
theorem run_enter {P : Program} {g : FuncId} (hg : Callable P g) (args : Array Value) (w : World) : (callFunc g args).run P w = .ok (.enter g args) w := by
  obtain ⟨fn, h1, h2, h3⟩ := hg
  simp only [callFunc, Sem.run_bind, run_program, Result.andThen_ok, h1, h2, h3, Bool.false_eq_true, if_false, Sem.run_pure]
section
variable {P : Program} {T : Tab} (hT : TabOk P T) {G : Env} (hG : EnvOk P G)
include hT hG
theorem eff_sound {s : Sit} {st : St} {a : Act} (hs : SRel s st a) {K : AV → Heap → List Tch → Prop} (o : Oper) (he : eEff T G st o.op K) : OpOk P s st.h (execOp a.eval o) K := by
  obtain ⟨dst, op, type, pos, after, guard⟩ := o
  have hh := hs.h
  have ht := hs.t
  simp only at he
  unfold eEff ti at he
  split at he
  · rename_i t
    split at he
    · rename_i d hd
      exact .inl (by simpa only [execOp] using alloc_ok hT hh hd he)
    · exact he.elim
  · exact .inl (by simpa only [execOp] using box_ok hT hh (ev_rel ht _) he)
  · refine .inl ?_
    simp only [execOp]
    refine buildSlice_ok hT hh he ?_
    have := parts_rel ht (by assumption : Array (Nat × Operand)).toList
    simpa using this
  · exact .inl (by simpa only [execOp] using makeSlice_ok hT hh he (ev_rel ht _) (ev_rel ht _))
  · rename_i t x y
    obtain ⟨s', av, v, h', tc, n, r1, r2, r3, r4, r5, r6, r7, r8, tch, rfl, r9⟩ := eStore_ok hT hh he (ev_rel ht x) (ev_rel ht y)
    subst r8
    exact .inl ⟨s', _, v, h', _, n, by simpa only [execOp] using r1, r2, r3, r4, r5, r6, r7, r9⟩
  · rename_i c
    split at he
    · rename_i b hb
      refine .inl ?_
      have hx := evs_rel ht c.args.toList
      obtain ⟨cs, e⟩ : ∃ cs, execOp a.eval { dst := dst, op := .call c, type := type, pos := pos, after := after, guard := guard } = builtin b c.argTypes type cs (c.args.map a.eval) :=
        ⟨_, by simp only [execOp, resolve, hb, pure_bind, invoke]; rfl⟩
      have := builtin_ok hT hh (ty := type) (cs := cs) (us := c.args.map a.eval) he (by simpa using hx)
      rw [e]
      exact this
    · rename_i f hf
      split at he
      · rename_i g fs cs hev
        split at he
        · rename_i C hC
          obtain ⟨hS, hcall⟩ := hG g C hC
          have hfv := ev_rel (a := a) ht f
          rw [hev] at hfv
          simp only [VRel] at hfv
          obtain ⟨fa, ca, hfe, h1, h2⟩ := hfv
          refine .inr ⟨g, fa ++ c.args.map a.eval ++ ca, ?_, ?_⟩
          · simp only [execOp, resolve, hf, hfe, Deferred.ofValue, pure_bind, invoke]
            exact run_enter hcall _ _
          · have hx := evs_rel ht c.args.toList
            have := call_sound hS hh ((h1.append hx).append h2) he
            have e : (fa.toList ++ List.map a.eval c.args.toList ++ ca.toList).toArray = fa ++ c.args.map a.eval ++ ca := by
              apply Array.ext'; simp
            rw [e] at this
            exact this
        · exact he.elim
      · exact he.elim
    · exact he.elim
  · exact he.elim
omit hT hG in
theorem wp_of_op {s : Sit} {h : Heap} {o : Oper} {a : Act} {K : AV → Heap → List Tch → Prop} (hx : OpOk P s h (execOp a.eval o) K) {next : Act → World → Prop} {Q : Exit → Act → World → Prop}
    (hn : ∀ s' v av h' tc, Ev s s' → s.base <+: s'.base → HRel s' h' → VRel s' av v → Un s s' h h' tc → K av h' tc → next (a.put o.dst v) s'.w) : o.wp P a s.w next Q := by
  rcases hx with ⟨s', av, v, h', tc, n, r1, r2, r3, r4, r5, r6, r7, r8⟩ | ⟨g, vals, r1, r2⟩
  · unfold Oper.wp
    rw [r1]
    rcases r2 with rfl | ⟨rfl, rfl⟩
    · exact hn s' v av h' tc r3 r4 r5 r6 r7 r8
    · exact hn s' _ av h' tc r3 r4 r5 r6 r7 r8
  · unfold Oper.wp
    rw [r1]
    refine Calls.mono r2 ?_
    rintro e w' ⟨s', v, av, h', tc, rfl, rfl, r3, r4, r5, r6, r7, r8⟩
    exact hn s' v av h' tc r3 r4 r5 r6 r7 r8
omit hT hG in
theorem guard_ok {s : Sit} {st : St} {a : Act} (hs : SRel s st a) {ops : Array Oper} {o : Oper} {yes no : St → Prop} (hg : eGuard ops.toList st o yes no) :
    (Region.wanted o (yielded ops a.tmps) = true ∧ ∃ st', st'.h = st.h ∧ SRel s st' a ∧ yes st') ∨ (Region.wanted o (yielded ops a.tmps) = false ∧ ∃ st', st'.h = st.h ∧ SRel s st' a ∧ no st') := by
  unfold eGuard at hg
  split at hg
  · rename_i h0
    exact .inl ⟨by simp [Region.wanted, h0], st, rfl, hs, hg⟩
  · rename_i j want h0
    split at hg
    · rename_i oj hj
      rw [nth_eq, Array.getElem?_toList] at hj
      split at hg
      · rename_i d hd
        have hw : ∀ q : Option Bool, yielded ops a.tmps j = q → Region.wanted o (yielded ops a.tmps) = (q == some want) := fun q hq => by simp [Region.wanted, h0, hq]
        split at hg
        · rename_i b hb
          obtain ⟨v, hv, hr⟩ := hs.t.array hb
          simp only [VRel] at hr
          subst hr
          have hy : yielded ops a.tmps j = some b.v := by simp [yielded, hj, hd, hv]
          have hw := hw _ hy
          split at hg
          · rename_i x
            simp only [BX.v] at hw
            split at hg
            · exact .inl ⟨by rw [hw]; rfl, st, rfl, hs, hg⟩
            · exact .inl ⟨by rw [hw]; rfl, st, rfl, hs, hg⟩
            · rename_i h1 h2
              refine .inr ⟨?_, st, rfl, hs, hg⟩
              rw [hw]
              cases x <;> cases want <;> simp_all
          · rename_i f
            simp only [BX.v] at hw
            cases hg with
            | mk h1 h2 =>
              have put : ∀ x, f () = x → SRel s ⟨upd st.t d (.bool (.l x)), st.h⟩ a := fun x hx => by
                refine ⟨hs.h, ?_, hs.d⟩
                have := upd_rel hs.t d (av := .bool (.l x)) (v := .bool x) (by simp [VRel, BX.v])
                have e : a.tmps.setIfInBounds d (.bool x) = a.tmps := by
                  rw [← hx]
                  apply Array.ext
                  · simp
                  · intro i h1 h2
                    rw [Array.getElem_setIfInBounds]
                    split
                    · rename_i e
                      subst e
                      have := (Array.getElem?_eq_some_iff.1 hv).2
                      rw [this]; rfl
                    · rfl
                rw [e] at this
                exact this
              cases hf : f () with
              | true =>
                have h1 := h1 hf
                rw [hf] at hw
                cases want with
                | true => exact .inl ⟨by rw [hw]; rfl, ⟨upd st.t d (.bool (.l true)), st.h⟩, rfl, put _ hf, h1⟩
                | false => exact .inr ⟨by rw [hw]; rfl, ⟨upd st.t d (.bool (.l true)), st.h⟩, rfl, put _ hf, h1⟩
              | false =>
                have h2 := h2 hf
                rw [hf] at hw
                cases want with
                | true => exact .inr ⟨by rw [hw]; rfl, ⟨upd st.t d (.bool (.l false)), st.h⟩, rfl, put _ hf, h2⟩
                | false => exact .inl ⟨by rw [hw]; rfl, ⟨upd st.t d (.bool (.l false)), st.h⟩, rfl, put _ hf, h2⟩
        · rename_i hb
          obtain ⟨v, hv, hr⟩ := hs.t.array hb
          simp only [VRel, VRels] at hr
          obtain ⟨_, rfl, _⟩ := hr
          have hy : yielded ops a.tmps j = none := by simp [yielded, hj, hd, hv]
          exact .inr ⟨by rw [hw _ hy]; rfl, st, rfl, hs, hg⟩
        · exact hg.elim
      · exact hg.elim
    · exact hg.elim
omit hT hG in
/-- a nil list, as an object that nobody changes -/
theorem nilro_ok {s : Sit} {h : Heap} (hh : HRel s h) {sig : List Kd} {l : Unit → List (List D)} (h0 : 0 < sig.length) (hl : l () = []) :
    HRel { s with base := s.base ++ [((none : Option Addr), sig.length)] } (h ++ [some ⟨false, .rows sig l⟩]) := by
  have hE : Ev s { s with base := s.base ++ [((none : Option Addr), sig.length)] } := ⟨Nat.le_refl _, fun _ _ _ => rfl, fun _ _ => rfl, fun _ h => .inl h, rfl, rfl, rfl⟩
  have hp : s.base <+: { s with base := s.base ++ [((none : Option Addr), sig.length)] }.base := List.prefix_append _ _
  have hlen := hh.len
  have old : ∀ j x, nth (h ++ [some (⟨false, .rows sig l⟩ : Obj)]) j = some (some x) → (j < h.length ∧ nth h j = some (some x)) ∨ (j = h.length ∧ x = ⟨false, .rows sig l⟩) := by
    intro j x hx
    rw [nth_append] at hx
    split at hx
    · exact .inl ⟨‹_›, hx⟩
    · have := nth_some_lt hx
      simp at this
      obtain rfl : j = h.length := by omega
      simp [nth] at hx
      exact .inr ⟨rfl, hx.symm⟩
  have bnew : nth (s.base ++ [((none : Option Addr), sig.length)]) h.length = some (none, sig.length) := by
    rw [nth_append, if_neg (by omega), hlen]; simp [nth]
  have bold : ∀ j, j < h.length → nth (s.base ++ [((none : Option Addr), sig.length)]) j = nth s.base j := fun j hj => by
    rw [nth_append, if_pos (by omega)]
  refine ⟨by simp [hlen], ?_, ?_, hh.ownlt, hh.hidlt, hh.apart, hh.fix.ev hE⟩
  · intro j x hx
    rcases old j x hx with ⟨hj, hx⟩ | ⟨rfl, rfl⟩
    · exact (hh.obj j x hx).keep hE hp (fun _ _ _ => rfl) fun _ hb _ _ => hb
    · exact ⟨_, _, bnew, rfl, h0, .inl ⟨rfl, hl⟩⟩
  · intro j k x q a a' z y hj hk hmx hmq ha ha' haa
    rcases old j x hj with ⟨hj1, hj2⟩ | ⟨rfl, rfl⟩
    · rcases old k q hk with ⟨hk1, hk2⟩ | ⟨rfl, rfl⟩
      · simp only [bold j hj1] at ha
        simp only [bold k hk1] at ha'
        exact hh.inj j k x q a a' z y hj2 hk2 hmx hmq ha ha' haa
      · cases hmq
    · cases hmx
omit hT hG in
/-- data that nobody changes, as an object -/
theorem mat_ok {s : Sit} {h : Heap} (hh : HRel s h) {av : AV} {v : Value} {K : AV → Heap → Prop} (hm : mat av h K) (hr : VRel s av v) :
    ∃ s1 av' h', s1.w = s.w ∧ Ev s s1 ∧ s.base <+: s1.base ∧ HRel s1 h' ∧ VRel s1 av' v ∧ (∀ tc, Un s s1 h h' tc) ∧ (∀ j, Live h j → Live h' j) ∧ K av' h' := by
  unfold mat at hm
  split at hm
  · rename_i sig l
    unfold push at hm
    simp only [VRel] at hr
    have hlen := hh.len
    have live : ∀ (o : Option Obj) j, Live h j → Live (h ++ [o]) j := fun o j ⟨x, hx⟩ => ⟨x, by rw [nth_append, if_pos (nth_some_lt hx)]; exact hx⟩
    generalize hl : l () = rows at hr
    cases hr with
    | nil sig a cap h0 h1 =>
      rcases h1 with rfl | ⟨b, o, t, m, rfl, h2, h3, h4⟩
      · refine ⟨{ s with base := s.base ++ [((none : Option Addr), sig.length)] }, _, _, rfl, ⟨Nat.le_refl _, fun _ _ _ => rfl, fun _ _ => rfl, fun _ h => .inl h, rfl, rfl, rfl⟩, List.prefix_append _ _, nilro_ok hh h0 hl, ?_, fun tc x _ hx => ⟨live _ _ hx, fun _ _ => rfl⟩, live _, hm⟩
        simp only [VRel]
        exact ⟨a, 0, by simp [NX.v, hl], by simp [NX.v, hl], by simp [NX.v, hl], by simp, by rw [len_eq]; exact h0, by simp [len_eq, hlen], .inl rfl⟩
      · refine ⟨{ s with base := s.base ++ [(some ⟨b, o, none⟩, sig.length)] }, _, _, rfl, ⟨Nat.le_refl _, fun _ _ _ => rfl, fun _ _ => rfl, fun _ h => .inl h, rfl, rfl, rfl⟩, List.prefix_append _ _, lent_ok hh rfl h2.2.2 h2.1 h0 ?_, ?_, fun tc x _ hx => ⟨live _ _ hx, fun _ _ => rfl⟩, live _, hm⟩
        · rw [hl]
          exact ⟨fun i r h => (by cases h), fun i j r k d h => (by cases h)⟩
        · simp only [VRel]
          refine ⟨some ⟨b, o, none⟩, cap, by simp [NX.v, hl], by simp [NX.v], by simp [NX.v, hl], by simp, by rw [len_eq]; exact h0, by simp [len_eq, hlen], .inr ⟨⟨b, o, none⟩, rfl, ⟨⟨b, o, none⟩, sig.length, ?_, rfl, by simp [NX.v]⟩, t, m, h3, by rw [len_eq]; exact h4⟩⟩
          rw [len_eq, nth_append, hlen, if_neg (by omega)]
          simp [nth]
    | sl sig rows blk off cap val h1 h2 h3 h4 h5 h6 h7 h8 =>
      obtain ⟨t, m, h9, h10⟩ := h5
      refine ⟨{ s with base := s.base ++ [(some ⟨blk, off, none⟩, sig.length)] }, _, _, rfl, ⟨Nat.le_refl _, fun _ _ _ => rfl, fun _ _ => rfl, fun _ h => .inl h, rfl, rfl, rfl⟩, List.prefix_append _ _, lent_ok hh rfl h1.2.2 h1.1 h2 ?_, ?_, fun tc x _ hx => ⟨live _ _ hx, fun _ _ => rfl⟩, live _, hm⟩
      · rw [hl]
        exact ⟨h6, fun i j r k d e1 e2 e3 => ⟨val i j, h7 i j r k d e1 e2 e3, h8 i j r k d e1 e2 e3⟩⟩
      · simp only [VRel]
        refine ⟨some ⟨blk, off, none⟩, cap, by simp only [NX.v, hl], by simp [NX.v], by simp only [NX.v, hl]; exact h4, by simp, by rw [len_eq]; exact h2, by simp [len_eq, hlen], .inr ⟨⟨blk, off, none⟩, rfl, ⟨⟨blk, off, none⟩, sig.length, ?_, rfl, by simp [NX.v]⟩, t, m, h9, by rw [len_eq]; exact h10⟩⟩
        rw [len_eq, nth_append, hlen, if_neg (by omega)]
        simp [nth]
  · exact ⟨s, av, h, rfl, Ev.refl s, prefix_refl' _, hh, hr, fun tc x _ hx => ⟨hx, fun _ _ => rfl⟩, fun _ h => h, hm⟩
omit hG in
/-- a row of a package's table is loaded -/
theorem globLoad_ok {s : Sit} {h : Heap} (hh : HRel s h) {t g : Nat} {i : NX} {u : Value} {K : AV → Prop} (hl : eGlobLoad T t g i K) (hx : VRel s (.gp g i) u) : ∃ av v, (Instr.loadAt t u).run P s.w = .ok v s.w ∧ VRel s av v ∧ K av := by
  unfold eGlobLoad ti at hl
  split at hl
  · rename_i p hp
    obtain ⟨sig, rows⟩ := p
    simp only [VRel, hp] at hx
    subst hx
    obtain ⟨f1, f2, f3⟩ := hh.fix g sig rows hp
    split at hl
    · rename_i d hd
      split at hl
      · rename_i ha
        split at hl
        · rename_i hsz
          have hsz := Nat.eq_of_beq_eq_true hsz
          simp only [len_eq] at hsz hl
          obtain ⟨h0, h1, hl⟩ := inN_ok hl
          have h1 : (ofNat i).v < (rows.length : Int) := h1
          rw [ofNat_v] at h1
          have hi : i.v < rows.length := by omega
          have hmk : ∀ j k, nth sig j = some k → ∃ v, s.w.cell? ⟨g, i.v * sig.length + j, none⟩ = some v ∧ DRel s k ((rows.getD i.v []).getD j (.i 0)) v := fun j k hk => by
            obtain ⟨r, hr⟩ := nth_of_lt hi
            have hj := nth_some_lt hk
            obtain ⟨e, he⟩ := nth_of_lt (l := r) (i := j) (by rw [f3.1 _ r hr]; exact hj)
            obtain ⟨v, hv, hd⟩ := f3.2 _ j r k e hr hk he
            refine ⟨v, hv, ?_⟩
            rw [nth_eq] at hr he
            have e1 : rows.getD i.v [] = r := by rw [List.getD_eq_getElem?_getD, hr]; rfl
            rw [e1, List.getD_eq_getElem?_getD, he]
            exact hd
          have hvs : ∃ vs : List Value, vs.length = sig.length ∧ ∀ j k, nth sig j = some k → ∃ v, vs[j]? = some v ∧ s.w.cell? ⟨g, i.v * sig.length + j, none⟩ = some v ∧ DRel s k ((rows.getD i.v []).getD j (.i 0)) v := by
            refine ⟨(List.range sig.length).map fun j => (s.w.cell? ⟨g, i.v * sig.length + j, none⟩).getD .nilFunc, by simp, fun j k hk => ?_⟩
            obtain ⟨v, hv, hd⟩ := hmk j k hk
            have hj := nth_some_lt hk
            exact ⟨v, by simp [hj, hv], hv, hd⟩
          obtain ⟨vs, hvl, hvs⟩ := hvs
          refine ⟨_, .agg vs.toArray, ?_, ?_, hl⟩
          · refine run_loadAgg hT hh hd ha rfl (by rw [hvl, hsz]) fun j v hj => ?_
            have hjl := (List.getElem?_eq_some_iff.1 hj).1
            obtain ⟨k, hk⟩ := nth_of_lt (l := sig) (i := j) (by omega)
            obtain ⟨v', g1, g2, _⟩ := hvs j k hk
            rw [hj] at g1
            simp at g1
            subst g1
            exact g2
          · simp only [VRel]
            refine ⟨_, rfl, cellsOf_rel sig 0 _ (by simpa using hvl) fun j k hk => ?_⟩
            obtain ⟨v, g1, _, g2⟩ := hvs j k hk
            exact ⟨v, g1, by simpa using g2⟩
        · exact hl.elim
      · exact hl.elim
    · exact hl.elim
  · exact hl.elim
/-- one operation that is carried out -/
theorem step_sound {s : Sit} {st : St} {a : Act} (hs : SRel s st a) {o : Oper} {K : St → List Tch → List Tch → Prop} (he : eStep T G st o K) {next : Act → World → Prop} {Q : Exit → Act → World → Prop}
    (hn : ∀ s' st' r tc a', Ev s s' → s.base <+: s'.base → SRel s' st' a' → Un s s' st.h st'.h tc → K st' r tc → next a' s'.w) : o.wp P a s.w next Q := by
  unfold eStep at he
  split at he
  · obtain ⟨av, v, h1, h2, h3⟩ := ePure_sound hT hs.t hs.h o he
    unfold Oper.wp
    rw [h1]
    exact hn s _ _ _ _ (Ev.refl s) (prefix_refl' _) (hs.put o.dst h2) (fun _ _ hl => ⟨hl, fun _ _ => rfl⟩) h3
  · split at he
    · rename_i t x hop
      obtain ⟨av, v, r, h1, h2, h3, h4⟩ := eLoad_ok hT hs.h he (ev_rel hs.t x)
      have e : (execOp a.eval o).run P s.w = .ok (.value v) s.w := by
        simp only [execOp, hop, Sem.run_bind, h1 s.w (fun _ _ => rfl), Result.andThen_ok]; rfl
      unfold Oper.wp
      rw [e]
      obtain ⟨s1, av', h', q1, q2, q3, q4, q5, q6, _, q8⟩ := mat_ok hs.h h3 h2
      have := hn s1 _ _ _ _ q2 q3 (hs.next q2 q3 q4 o.dst q5) (q6 _) q8
      rwa [q1] at this
    · exact wp_of_op (eff_sound hT hG hs o he) fun s' v av h' tc e1 e2 e3 e4 e5 e6 => hn s' _ _ _ _ e1 e2 (hs.next e1 e2 e3 o.dst e4) e5 e6
theorem ops_sound {ops : Array Oper} {Q : Exit → Act → World → Prop} : ∀ (l : List Oper) (s : Sit) (st : St) (a : Act) (K : St → Prop), SRel s st a → eOps T G ops.toList l st K →
    (∀ s' st' a', Ev s s' → s.base <+: s'.base → SRel s' st' a' → K st' → Q .normal a' s'.w) → wpList P ops Q l a s.w
  | [], s, st, a, K, hs, he, hq => hq s st a (Ev.refl s) (prefix_refl' _) hs he
  | o :: rest, s, st, a, K, hs, he, hq => by
    unfold eOps at he
    unfold wpList
    rcases guard_ok hs he with ⟨hw, st', _, hs', he⟩ | ⟨hw, st', _, hs', he⟩
    · rw [if_pos hw]
      refine .inl ?_
      split at he
      · rename_i t x hop
        split at he
        · rename_i g i hev
          have hx := ev_rel (a := a) hs'.t x
          rw [hev] at hx
          obtain ⟨av, v, h1, h2, h3⟩ := globLoad_ok hT hs'.h he hx
          have e : (execOp a.eval o).run P s.w = .ok (.value v) s.w := by
            simp only [execOp, hop, Sem.run_bind, h1, Result.andThen_ok]; rfl
          unfold Oper.wp
          rw [e]
          exact ops_sound rest s _ _ K (hs'.put o.dst h2) h3 hq
        · exact step_sound hT hG hs' he fun s2 st2 r tc a2 e1 e2 e3 e4 e5 => ops_sound rest s2 st2 a2 K e3 e5 fun s3 st3 a3 f1 f2 f3 f4 => hq s3 st3 a3 (e1.trans f1) (e2.trans f2) f3 f4
      · exact step_sound hT hG hs' he fun s2 st2 r tc a2 e1 e2 e3 e4 e5 => ops_sound rest s2 st2 a2 K e3 e5 fun s3 st3 a3 f1 f2 f3 f4 => hq s3 st3 a3 (e1.trans f1) (e2.trans f2) f3 f4
    · rw [if_neg (by rw [hw]; simp)]
      exact ops_sound rest s _ _ K (hs'.put o.dst (undef_rel s)) he hq
end
end Go.Sy
end

section
/- Soundness: regions whose order Go leaves open: pure operations and loads are taken early. -/
namespace Go.Sy
set_option linter.unusedSimpArgs false
set_option linter.unusedVariables false
set_option linter.unusedSectionVars false
open Region (ready binds)

/-- the static premise: operations of which neither waits for the other touch no slot of each other's -/
def regOk (ops : Array Oper) : Bool :=
  Region.noSelect ops && (List.range ops.size).all fun i => (List.range ops.size).all fun j => i == j || match ops[i]?, ops[j]? with
    | some oi, some oj => oi.after.any (fun e => binds .any e && e.on == j) || oj.after.any (fun e => binds .any e && e.on == i) || oi.apart ops oj
    | _, _ => true
theorem regOk_spec {ops : Array Oper} (h : regOk ops = true) : Region.noSelect ops = true ∧ ∀ i j oi oj, i ≠ j → ops[i]? = some oi → ops[j]? = some oj →
    (∃ e ∈ oi.after, binds .any e = true ∧ e.on = j) ∨ (∃ e ∈ oj.after, binds .any e = true ∧ e.on = i) ∨ oi.apart ops oj = true := by
  unfold regOk at h
  rw [Bool.and_eq_true] at h
  refine ⟨h.1, fun i j oi oj hne hi hj => ?_⟩
  have h2 := h.2
  simp only [List.all_eq_true, List.mem_range] at h2
  have h3 := h2 i (Array.getElem?_eq_some_iff.1 hi).1 j (Array.getElem?_eq_some_iff.1 hj).1
  simp only [hi, hj, Bool.or_eq_true, beq_iff_eq, hne, false_or] at h3
  rcases h3 with (h3 | h3) | h3
  · obtain ⟨e, he, hb⟩ := Array.any_eq_true'.1 h3
    simp only [Bool.and_eq_true, beq_iff_eq] at hb
    exact .inl ⟨e, he, hb.1, hb.2⟩
  · obtain ⟨e, he, hb⟩ := Array.any_eq_true'.1 h3
    simp only [Bool.and_eq_true, beq_iff_eq] at hb
    exact .inr (.inl ⟨e, he, hb.1, hb.2⟩)
  · exact .inr (.inr h3)
section
variable {P : Program} {ops : Array Oper} {Q : Exit → Act → World → Prop}
/-- all orders, with an invariant of the listed ones and the world -/
def wpAnyI (P : Program) (ops : Array Oper) (Q : Exit → Act → World → Prop) (I : Array Bool → World → Prop) : Nat → Array Bool → Act → World → Prop
  | 0, L, a, w => I L w ∧ ready .any ops L = [] ∧ Q .normal a w
  | n + 1, L, a, w => I L w ∧ (ready .any ops L = [] → Q .normal a w) ∧ ∀ i ∈ ready .any ops L, wpOp P ops Q i (wpAnyI P ops Q I n (L.setIfInBounds i true)) a w
theorem wpAny_of_I {I : Array Bool → World → Prop} : ∀ (n : Nat) (L : Array Bool) (a : Act) (w : World), wpAnyI P ops Q I n L a w → wpAny P .any ops Q n L a w
  | 0, _, _, _, h => h.2
  | n + 1, L, a, w, h => ⟨h.2.1, fun i hi => wpOp_mono (fun a w => wpAny_of_I n _ a w) (h.2.2 i hi)⟩
theorem wpAnyI_mono {I I' : Array Bool → World → Prop} (hI : ∀ L w, I' L w → I L w) : ∀ (n : Nat) (L : Array Bool) (a : Act) (w : World), wpAnyI P ops Q I' n L a w → wpAnyI P ops Q I n L a w
  | 0, _, _, _, h => ⟨hI _ _ h.1, h.2⟩
  | n + 1, L, a, w, h => ⟨hI _ _ h.1, h.2.1, fun i hi => wpOp_mono (fun a w => wpAnyI_mono hI n _ a w) (h.2.2 i hi)⟩
theorem wpAnyI_now {I : Array Bool → World → Prop} {n : Nat} {L : Array Bool} {a : Act} {w : World} (h : wpAnyI P ops Q I n L a w) : I L w := by
  cases n with
  | zero => exact h.1
  | succ n => exact h.1
/-- in the worlds of S the operation yields v and leaves the world -/
def YieldsIn (P : Program) (ops : Array Oper) (S : World → Prop) (o : Oper) (v : Value) (a : Act) : Prop :=
  (Region.wanted o (yielded ops a.tmps) = true ∧ ∀ w, S w → (execOp a.eval o).run P w = .ok (.value v) w) ∨ (Region.wanted o (yielded ops a.tmps) = false ∧ v = undef)
theorem YieldsIn.wpOp {S : World → Prop} {i : Nat} {o : Oper} {v : Value} {a : Act} (hi : ops[i]? = some o) (hy : YieldsIn P ops S o v a) {K : Act → World → Prop} {w : World} (hS : S w) (h : K (a.put o.dst v) w) :
    wpOp P ops Q i K a w := by
  unfold Go.wpOp
  simp only [hi]
  rcases hy with ⟨hw, hv⟩ | ⟨hw, rfl⟩
  · rw [if_pos hw]
    refine .inl ?_
    unfold Oper.wp
    rw [hv w hS]
    exact h
  · rw [if_neg (by rw [hw]; simp)]
    exact h
/-- another operation runs first -/
theorem swapOp {S : World → Prop} {j : Nat} {oi oj : Oper} {v : Value} (hj : ops[j]? = some oj) (hap : oi.apart ops oj = true) (hsi : ∀ cs b, oi.op ≠ .select cs b) (hsj : ∀ cs b, oj.op ≠ .select cs b)
    (hQ : ∀ c a w, ¬ Q (.panic c) a w) (hO : ¬ LetsOut Q) {K : Act → World → Prop} {a : Act} {w : World} (hy : YieldsIn P ops S oi v a) (h : wpOp P ops Q j K (a.put oi.dst v) w) :
    wpOp P ops Q j (fun a' w' => YieldsIn P ops S oi v a' ∧ K (a'.put oi.dst v) w') a w := by
  obtain ⟨h1, h2, h3⟩ := Oper.apart_spec hap
  have same : ∀ a', execOp a'.eval oi = execOp a.eval oi → Region.wanted oi (yielded ops a'.tmps) = Region.wanted oi (yielded ops a.tmps) → YieldsIn P ops S oi v a' := fun a' e1 e2 => by
    unfold YieldsIn at hy ⊢
    rw [e1, e2]; exact hy
  have keep : ∀ u, YieldsIn P ops S oi v (a.put oj.dst u) := fun u => same _ (execOp_put oi hsi a oj.dst u h3) (wanted_put oi a oj.dst u h3)
  unfold Go.wpOp at h ⊢
  simp only [hj] at h ⊢
  rw [wanted_put oj a oi.dst v h1] at h
  split at h
  · rename_i hw
    rw [if_pos hw]
    rcases h with h | ⟨_, h⟩
    · refine .inl ?_
      unfold Oper.wp at h ⊢
      rw [execOp_put oj hsj a oi.dst v h1] at h
      revert h
      generalize (execOp a.eval oj).run P w = r
      intro h
      have comm : ∀ u w', K ((a.put oi.dst v).put oj.dst u) w' → K ((a.put oj.dst u).put oi.dst v) w' := fun u w' hk => by
        rw [Act.put_comm a v u h2] at hk; exact hk
      cases r with
      | ok n w' =>
        cases n <;> simp only [Oper.upon] at h ⊢
        case value u => exact ⟨keep u, comm u w' h⟩
        case skip => exact ⟨keep undef, comm undef w' h⟩
        case defer d =>
          refine ⟨?_, ?_⟩
          · exact same _ (execOp_put oi hsi { a with defers := d :: a.defers } oj.dst undef h3) (wanted_put oi { a with defers := d :: a.defers } oj.dst undef h3)
          · rw [← Act.put_comm _ v undef h2, ← Act.put_defers]
            exact h
        case enter f args =>
          refine Calls.mono h fun e w'' he => ?_
          cases e with
          | returned u => exact ⟨keep u, comm u w'' he⟩
          | panicked c => exact absurd he (hQ _ _ _)
          | outgrown => exact he
        case row row args => exact Rows.mono h fun u w'' he => ⟨keep u, comm u w'' he⟩
      | halt x w' =>
        cases x <;> simp only [Oper.upon] at h ⊢
        case panic u => exact absurd h (hQ _ _ _)
    · exact absurd h hO
  · rename_i hw
    rw [if_neg hw]
    refine ⟨keep undef, ?_⟩
    rw [Act.put_comm a v undef h2] at h; exact h
theorem getD_of {L : Array Bool} {i : Nat} (h : L.getD i true = false) : L.getD i false = false := by
  by_cases hi : i < L.size
  · simp [hi] at h ⊢; exact h
  · simp [hi] at h
/-- An operation that changes nothing, and whose answer holds as long as 'S' does, may be thought to run first. -/
theorem firstI {i : Nat} {oi : Oper} {v : Value} {S : World → Prop} {I I' : Array Bool → World → Prop} {F : Nat → Prop} (hi : ops[i]? = some oi) (hsel : ∀ (j : Nat) (o : Oper) cs b, ops[j]? = some o → o.op ≠ .select cs b)
    (hQ : ∀ c a w, ¬ Q (.panic c) a w) (hO : ¬ LetsOut Q)
    (hF : ∀ d, F d → ∀ o, ops[d]? = some o → ∃ e ∈ o.after, binds .any e = true ∧ (e.on = i ∨ F e.on))
    (hI1 : ∀ (L : Array Bool) w, I' (L.setIfInBounds i true) w → I L w) (hI2 : ∀ L w, I' L w → I L w) (hS : ∀ (L : Array Bool) w, L.getD i true = false → (∀ d, F d → L.getD d false = false) → I' (L.setIfInBounds i true) w → S w) :
    ∀ (fuel : Nat) (L : Array Bool) (a : Act) (w : World),
      (∀ j oj, ops[j]? = some oj → j ≠ i → L.getD j true = false → (∀ e ∈ oj.after, binds .any e = true → e.on ≠ i) → oi.apart ops oj = true) →
      i ∈ ready .any ops L → (∀ d, F d → L.getD d false = false) → YieldsIn P ops S oi v a →
      wpAnyI P ops Q I' fuel (L.setIfInBounds i true) (a.put oi.dst v) w → wpAnyI P ops Q I (fuel + 1) L a w := by
  intro fuel
  induction fuel with
  | zero =>
    intro L a w _ hr hf hy H
    have hun := (mem_ready.1 hr).1
    refine ⟨hI1 _ _ H.1, fun h => (by rw [h] at hr; cases hr), fun j hj => ?_⟩
    by_cases hji : j = i
    · subst hji
      exact hy.wpOp hi (hS L w hun hf H.1) (wpAnyI_mono hI2 _ _ _ _ H)
    · have := ready_mono hj hji
      rw [H.2.1] at this
      cases this
  | succ fuel ih =>
    intro L a w hfree hr hf hy H
    have hun := (mem_ready.1 hr).1
    refine ⟨hI1 _ _ H.1, fun h => (by rw [h] at hr; cases hr), fun j hj => ?_⟩
    by_cases hji : j = i
    · subst hji
      exact hy.wpOp hi (hS L w hun hf H.1) (wpAnyI_mono hI2 _ _ _ _ H)
    · have h1 := H.2.2 j (ready_mono hj hji)
      obtain ⟨hjun, oj, hoj, hall⟩ := mem_ready.1 hj
      have hnot : ∀ e ∈ oj.after, binds .any e = true → e.on ≠ i := fun e he hb heq => by
        have h1 := hall e he hb
        rw [heq, getD_of hun] at h1
        cases h1
      have h2 := swapOp hoj (hfree j oj hoj hji hjun hnot) (fun cs b => hsel i oi cs b hi) (fun cs b => hsel j oj cs b hoj) hQ hO hy h1
      have hFj : ¬ F j := fun hFj => by
        obtain ⟨e, he, hb, h3⟩ := hF j hFj oj hoj
        have h4 := hall e he hb
        rcases h3 with h3 | h3
        · exact hnot e he hb h3
        · rw [hf _ h3] at h4; cases h4
      refine wpOp_mono (fun a' w' h3 => ih (L.setIfInBounds j true) a' w' (fun k ok hk hki hunk hno => ?_) (ready_mono hr (Ne.symm hji)) (fun d hd => ?_) h3.1 ?_) h2
      · refine hfree k ok hk hki ?_ hno
        by_cases hjk : j = k
        · subst hjk; exact hjun
        · rw [getD_set_ne true hjk] at hunk; exact hunk
      · rw [getD_set_ne false (fun e : j = d => hFj (by rw [e]; exact hd))]
        exact hf d hd
      · rw [Array.setIfInBounds_comm _ _ hji]
        exact h3.2
end
/-! ### the books -/
def effIdx (ops : Array Oper) (d : Nat) : Prop := ∃ o, ops[d]? = some o ∧ isPure o.op = false ∧ isLoad o.op = false
structure SOb where
  deps : List Nat
  foot : Addr → Prop
  w0 : World
def Obs (ops : Array Oper) (sobs : List SOb) (L : Array Bool) (w : World) : Prop :=
  ∀ ob ∈ sobs, (∃ d ∈ ob.deps, effIdx ops d ∧ L.getD d false = true) ∨ ∀ ad, ob.foot ad → w.cell? ad = ob.w0.cell? ad
structure LRel (ops : Array Oper) (L : Array Bool) (done eff : List Nat) (left : List (Nat × Oper)) : Prop where
  size : L.size = ops.size
  lft : ∀ p ∈ left, ops[p.1]? = some p.2 ∧ L.getD p.1 true = false
  conv : ∀ j o, ops[j]? = some o → L.getD j true = false → (j, o) ∈ left
  done : ∀ j, memN done j = true ↔ L.getD j false = true
  eff : ∀ d ∈ eff, effIdx ops d ∧ L.getD d false = true
  nodup : (left.map (·.1)).Nodup
def ObsOk (sobs : List SOb) (obs : List Ob) (eff : List Nat) (s : Sit) (h : Heap) : Prop :=
  ∀ ob ∈ sobs, (∃ d ∈ ob.deps, d ∈ eff) ∨ ∃ o ∈ obs, o.deps = ob.deps ∧ Live h o.tch.id ∧ (∀ ad, ob.foot ad → Foot s o.tch ad) ∧ ∀ ad, ob.foot ad → s.w.cell? ad = ob.w0.cell? ad
theorem ObsOk.now {ops : Array Oper} {sobs : List SOb} {obs : List Ob} {eff done : List Nat} {left : List (Nat × Oper)} {s : Sit} {h : Heap} {L : Array Bool} (hL : LRel ops L done eff left) (ho : ObsOk sobs obs eff s h) : Obs ops sobs L s.w := by
  intro ob hob
  rcases ho ob hob with ⟨d, h1, h2⟩ | ⟨o, _, _, _, _, h5⟩
  · exact .inl ⟨d, h1, hL.eff d h2⟩
  · exact .inr h5
theorem mem_del {n : Nat} : ∀ {l : List (Nat × Oper)} {p : Nat × Oper}, p ∈ del n l → p ∈ l
  | [], p, h => by cases h
  | q :: l, p, h => by
    simp only [del] at h
    split at h
    · exact List.mem_cons_of_mem _ h
    · rcases List.mem_cons.1 h with rfl | h
      · exact List.mem_cons_self
      · exact List.mem_cons_of_mem _ (mem_del h)
theorem del_spec {n : Nat} : ∀ {l : List (Nat × Oper)}, (l.map (·.1)).Nodup → (∀ p, p ∈ del n l ↔ p ∈ l ∧ p.1 ≠ n) ∧ ((del n l).map (·.1)).Nodup ∧ ((∃ o, (n, o) ∈ l) → l.length = (del n l).length + 1)
  | [], _ => ⟨fun p => by simp [del], by simp [del], fun ⟨o, h⟩ => by cases h⟩
  | q :: l, h => by
    simp only [List.map_cons, List.nodup_cons] at h
    obtain ⟨ih1, ih2, ih3⟩ := del_spec (n := n) h.2
    simp only [del]
    split
    · rename_i hq
      have hq := Nat.eq_of_beq_eq_true hq
      subst hq
      refine ⟨fun p => ?_, h.2, fun _ => by simp⟩
      constructor
      · intro hp
        exact ⟨List.mem_cons_of_mem _ hp, fun e => h.1 (List.mem_map.2 ⟨p, hp, e⟩)⟩
      · rintro ⟨hp, hne⟩
        rcases List.mem_cons.1 hp with rfl | hp
        · exact absurd rfl hne
        · exact hp
    · rename_i hq
      have hq : q.1 ≠ n := fun e => by rw [e, Nat.beq_refl] at hq; cases hq
      refine ⟨fun p => ?_, ?_, ?_⟩
      · rw [List.mem_cons, ih1, List.mem_cons]
        constructor
        · rintro (rfl | ⟨h1, h2⟩)
          · exact ⟨.inl rfl, hq⟩
          · exact ⟨.inr h1, h2⟩
        · rintro ⟨rfl | h1, h2⟩
          · exact .inl rfl
          · exact .inr ⟨h1, h2⟩
      · simp only [List.map_cons, List.nodup_cons]
        refine ⟨fun hm => ?_, ih2⟩
        obtain ⟨p, hp, e⟩ := List.mem_map.1 hm
        exact h.1 (List.mem_map.2 ⟨p, mem_del hp, e⟩)
      · rintro ⟨o, ho⟩
        rcases List.mem_cons.1 ho with e | ho
        · rw [← e] at hq; exact absurd rfl hq
        · simp [ih3 ⟨o, ho⟩]
theorem LRel.step {ops : Array Oper} {L : Array Bool} {done eff : List Nat} {left : List (Nat × Oper)} (h : LRel ops L done eff left) {p : Nat × Oper} (hp : p ∈ left) {eff' : List Nat} (he : eff' = eff ∨ eff' = p.1 :: eff ∧ isPure p.2.op = false ∧ isLoad p.2.op = false) :
    LRel ops (L.setIfInBounds p.1 true) (p.1 :: done) eff' (del p.1 left) ∧ left.length = (del p.1 left).length + 1 := by
  obtain ⟨h1, h2⟩ := h.lft p hp
  obtain ⟨d1, d2, d3⟩ := del_spec (n := p.1) h.nodup
  have hlt : p.1 < L.size := by rw [h.size]; exact (Array.getElem?_eq_some_iff.1 h1).1
  have hset : (L.setIfInBounds p.1 true).getD p.1 false = true := by simp [hlt]
  refine ⟨⟨by simp [h.size], ?_, ?_, ?_, ?_, d2⟩, d3 ⟨p.2, hp⟩⟩
  · intro q hq
    obtain ⟨q1, q2⟩ := (d1 q).1 hq
    obtain ⟨q3, q4⟩ := h.lft q q1
    exact ⟨q3, by rw [getD_set_ne true (fun e => q2 e.symm)]; exact q4⟩
  · intro j o hj hun
    by_cases e : p.1 = j
    · subst e
      simp [hlt] at hun
    · rw [getD_set_ne true e] at hun
      exact (d1 _).2 ⟨h.conv j o hj hun, fun e' => e e'.symm⟩
  · intro j
    simp only [memN]
    by_cases e : p.1 = j
    · subst e
      simp [hset, Nat.beq_refl]
    · have : Nat.beq p.1 j = false := by
        cases hb : Nat.beq p.1 j
        · rfl
        · exact absurd (Nat.eq_of_beq_eq_true hb) e
      rw [this, getD_set_ne false e]
      exact h.done j
  · intro d hd
    rcases he with rfl | ⟨rfl, he1, he2⟩
    · obtain ⟨g1, g2⟩ := h.eff d hd
      exact ⟨g1, getD_set_true g2⟩
    · rcases List.mem_cons.1 hd with rfl | hd
      · exact ⟨⟨p.2, h1, he1, he2⟩, hset⟩
      · obtain ⟨g1, g2⟩ := h.eff d hd
        exact ⟨g1, getD_set_true g2⟩
theorem bnd_eq (e : Edge) : bnd e = binds .any e := by unfold bnd binds; cases e.ground <;> rfl
theorem sat_iff (done : List Nat) : ∀ l : List Edge, sat done l = true ↔ ∀ e ∈ l, binds .any e = true → memN done e.on = true
  | [] => by simp [sat]
  | e :: l => by
    have ih := sat_iff done l
    simp only [sat, List.forall_mem_cons, ← bnd_eq e]
    cases hb : bnd e with
    | false => simp [ih]
    | true =>
      cases hm : memN done e.on with
      | true => simp [ih]
      | false => simp
theorem mem_readys {done : List Nat} {p : Nat × Oper} : ∀ {l : List (Nat × Oper)}, p ∈ readys done l ↔ p ∈ l ∧ sat done p.2.after.toList = true
  | [] => by simp [readys]
  | q :: l => by
    simp only [readys]
    cases hs : sat done q.2.after.toList with
    | true =>
      simp only [List.mem_cons, mem_readys (l := l)]
      constructor
      · rintro (rfl | ⟨h1, h2⟩)
        · exact ⟨.inl rfl, hs⟩
        · exact ⟨.inr h1, h2⟩
      · rintro ⟨rfl | h1, h2⟩
        · exact .inl rfl
        · exact .inr ⟨h1, h2⟩
    | false =>
      simp only [List.mem_cons, mem_readys (l := l)]
      constructor
      · rintro ⟨h1, h2⟩; exact ⟨.inr h1, h2⟩
      · rintro ⟨rfl | h1, h2⟩
        · rw [hs] at h2; cases h2
        · exact ⟨h1, h2⟩
theorem ready_iff {ops : Array Oper} {L : Array Bool} {done eff : List Nat} {left : List (Nat × Oper)} (h : LRel ops L done eff left) (i : Nat) : i ∈ ready .any ops L ↔ ∃ o, (i, o) ∈ readys done left := by
  rw [mem_ready]
  constructor
  · rintro ⟨h1, o, ho, h2⟩
    refine ⟨o, mem_readys.2 ⟨h.conv i o ho h1, (sat_iff _ _).2 fun e he hb => ?_⟩⟩
    exact (h.done _).2 (h2 e (by simpa using he) hb)
  · rintro ⟨o, ho⟩
    obtain ⟨h1, h2⟩ := mem_readys.1 ho
    obtain ⟨h3, h4⟩ := h.lft _ h1
    exact ⟨h4, o, h3, fun e he hb => (h.done _).1 ((sat_iff _ _).1 h2 e (by simpa using he) hb)⟩
theorem waitsFor_spec (ds : List Nat) : ∀ l : List Edge, waitsFor ds l = true → ∃ e ∈ l, binds .any e = true ∧ e.on ∈ ds
  | [], h => by cases h
  | e :: l, h => by
    simp only [waitsFor] at h
    split at h
    · obtain ⟨e', h1, h2⟩ := waitsFor_spec ds l h
      exact ⟨e', List.mem_cons_of_mem _ h1, h2⟩
    · rename_i hb
      split at h
      · rename_i hm
        exact ⟨e, List.mem_cons_self, by rw [← bnd_eq]; exact hb, (memN_iff _ _).1 hm⟩
      · obtain ⟨e', h1, h2⟩ := waitsFor_spec ds l h
        exact ⟨e', List.mem_cons_of_mem _ h1, h2⟩
theorem followers_spec (i : Nat) : ∀ (l : List (Nat × Oper)) (ds : List Nat), (∀ d ∈ ds, d ∈ followers i l ds) ∧
    ∀ d ∈ followers i l ds, d ∈ ds ∨ ∃ o, (d, o) ∈ l ∧ ∃ e ∈ o.after.toList, binds .any e = true ∧ (e.on = i ∨ e.on ∈ followers i l ds)
  | [], ds => ⟨fun d h => by simpa [followers] using h, fun d h => .inl (by simpa [followers] using h)⟩
  | p :: l, ds => by
    simp only [followers]
    split
    · rename_i hw
      obtain ⟨h1, h2⟩ := followers_spec i l (p.1 :: ds)
      refine ⟨fun d hd => h1 d (List.mem_cons_of_mem _ hd), fun d hd => ?_⟩
      rcases h2 d hd with h3 | ⟨o, ho, h3⟩
      · rcases List.mem_cons.1 h3 with rfl | h3
        · obtain ⟨e, he, hb, hm⟩ := waitsFor_spec _ _ hw
          refine .inr ⟨p.2, List.mem_cons_self, e, he, hb, ?_⟩
          rcases List.mem_cons.1 hm with h | h
          · exact .inl h
          · exact .inr (h1 _ (List.mem_cons_of_mem _ h))
        · exact .inl h3
      · exact .inr ⟨o, List.mem_cons_of_mem _ ho, h3⟩
    · obtain ⟨h1, h2⟩ := followers_spec i l ds
      refine ⟨h1, fun d hd => ?_⟩
      rcases h2 d hd with h3 | ⟨o, ho, h3⟩
      · exact .inl h3
      · exact .inr ⟨o, List.mem_cons_of_mem _ ho, h3⟩
theorem firstPure_spec : ∀ {l : List (Nat × Oper)} {p : Nat × Oper}, firstPure l = some p → p ∈ l ∧ isPure p.2.op = true
  | [], p, h => by cases h
  | q :: l, p, h => by
    simp only [firstPure] at h
    split at h
    · simp at h; subst h; exact ⟨List.mem_cons_self, ‹_›⟩
    · obtain ⟨h1, h2⟩ := firstPure_spec h
      exact ⟨List.mem_cons_of_mem _ h1, h2⟩
theorem firstPure_none : ∀ {l : List (Nat × Oper)}, firstPure l = none → ∀ p ∈ l, isPure p.2.op = false
  | [], _, p, h => by cases h
  | q :: l, hn, p, h => by
    simp only [firstPure] at hn
    split at hn
    · cases hn
    · rename_i hq
      rcases List.mem_cons.1 h with rfl | h
      · exact hq
      · exact firstPure_none hn p h
theorem firstLoad_spec : ∀ {l : List (Nat × Oper)} {p : Nat × Oper}, firstLoad l = some p → p ∈ l ∧ isLoad p.2.op = true
  | [], p, h => by cases h
  | q :: l, p, h => by
    simp only [firstLoad] at h
    split at h
    · simp at h; subst h; exact ⟨List.mem_cons_self, ‹_›⟩
    · obtain ⟨h1, h2⟩ := firstLoad_spec h
      exact ⟨List.mem_cons_of_mem _ h1, h2⟩
theorem firstLoad_none : ∀ {l : List (Nat × Oper)}, firstLoad l = none → ∀ p ∈ l, isLoad p.2.op = false
  | [], _, p, h => by cases h
  | q :: l, hn, p, h => by
    simp only [firstLoad] at hn
    split at hn
    · cases hn
    · rename_i hq
      rcases List.mem_cons.1 h with rfl | h
      · exact hq
      · exact firstLoad_none hn p h
theorem allOf_mem {F : Nat × Oper → Prop} : ∀ {l : List (Nat × Oper)}, allOf F l → ∀ p ∈ l, F p
  | [], _, p, h => by cases h
  | [q], hq, p, h => by
    simp at h; subst h; exact hq
  | q :: r :: l, hq, p, h => by
    simp only [allOf] at hq
    rcases List.mem_cons.1 h with rfl | h
    · exact hq.1
    · exact allOf_mem hq.2 p h
end Go.Sy
end

section
/- Soundness: a region whose order Go leaves open. -/
namespace Go.Sy
set_option linter.unusedSimpArgs false
set_option linter.unusedVariables false
set_option linter.unusedSectionVars false
open Region (ready binds)
section
variable {P : Program} {T : Tab} (hT : TabOk P T) {G : Env} (hG : EnvOk P G) {ops : Array Oper} (hok : regOk ops = true) {Q : Exit → Act → World → Prop} (hQ : ∀ c a w, ¬ Q (.panic c) a w) (hO : ¬ LetsOut Q)
theorem mem_obsOf (deps : List Nat) (obs : List Ob) : ∀ (l : List Tch), (∀ o ∈ obs, o ∈ obsOf deps obs l) ∧ ∀ t ∈ l, (⟨deps, t⟩ : Ob) ∈ obsOf deps obs l
  | [] => ⟨fun o h => h, fun t h => by cases h⟩
  | t :: l => by
    obtain ⟨h1, h2⟩ := mem_obsOf deps obs l
    refine ⟨fun o h => List.mem_cons_of_mem _ (h1 o h), fun u hu => ?_⟩
    rcases List.mem_cons.1 hu with rfl | hu
    · exact List.mem_cons_self
    · exact List.mem_cons_of_mem _ (h2 u hu)
theorem keeps_spec {done : List Nat} {tc : List Tch} : ∀ {obs : List Ob}, keeps done tc obs = true → ∀ o ∈ obs, anyIn o.deps done = true ∨ clashes o.tch tc = false
  | [], _, o, h => by cases h
  | q :: l, hk, o, h => by
    simp only [keeps] at hk
    split at hk
    · rename_i hq
      rcases List.mem_cons.1 h with rfl | h
      · exact .inl hq
      · exact keeps_spec hk o h
    · split at hk
      · cases hk
      · rename_i hq
        rcases List.mem_cons.1 h with rfl | h
        · exact .inr hq
        · exact keeps_spec hk o h
theorem anyIn_true {m : List Nat} : ∀ {l : List Nat}, anyIn l m = true → ∃ d ∈ l, d ∈ m
  | [], h => by cases h
  | a :: l, h => by
    simp only [anyIn] at h
    split at h
    · rename_i ha
      exact ⟨a, List.mem_cons_self, (memN_iff m a).1 ha⟩
    · obtain ⟨d, h1, h2⟩ := anyIn_true h
      exact ⟨d, List.mem_cons_of_mem _ h1, h2⟩
include hT hG hok hQ hO
theorem any_sound : ∀ (n fuel : Nat) (done eff : List Nat) (left : List (Nat × Oper)) (obs : List Ob) (sobs : List SOb) (st : St) (s : Sit) (a : Act) (L : Array Bool) (K : St → Prop),
    eAny T G ops.toList n done eff left obs st K → SRel s st a → LRel ops L done eff left → fuel = left.length → ObsOk sobs obs eff s st.h →
    (∀ s' st' a', Ev s s' → s.base <+: s'.base → SRel s' st' a' → K st' → Q .normal a' s'.w) → wpAnyI P ops Q (Obs ops sobs) fuel L a s.w := by
  intro n
  induction n with
  | zero => intro fuel done eff left obs sobs st s a L K he; exact he.elim
  | succ n ih =>
    intro fuel done eff left obs sobs st s a L K he hs hL hf hob hK
    have hnow := hob.now hL
    obtain ⟨hsel0, hap0⟩ := regOk_spec hok
    have hsel := Region.noSelect_spec hsel0
    have hfree : ∀ i oi, i ∈ ready .any ops L → ops[i]? = some oi → ∀ j oj, ops[j]? = some oj → j ≠ i → L.getD j true = false → (∀ e ∈ oj.after, binds .any e = true → e.on ≠ i) → oi.apart ops oj = true := by
      intro i oi hi hoi j oj hoj hne hun hno
      rcases hap0 i j oi oj (fun e => hne e.symm) hoi hoj with ⟨e, he, hb, h1⟩ | ⟨e, he, hb, h1⟩ | h1
      · obtain ⟨_, o, ho, h2⟩ := mem_ready.1 hi
        rw [hoi] at ho
        simp at ho
        subst ho
        have := h2 e he hb
        rw [h1, getD_of hun] at this
        cases this
      · exact absurd h1 (hno e he hb)
      · exact h1
    unfold eAny at he
    split at he
    · -- all done
      have hr : ready .any ops L = [] := by
        cases hr : ready .any ops L with
        | nil => rfl
        | cons i l =>
          have hi : i ∈ ready .any ops L := by rw [hr]; exact List.mem_cons_self
          obtain ⟨o, ho⟩ := (ready_iff hL i).1 hi
          simp [readys] at ho
      simp at hf
      subst hf
      exact ⟨hnow, hr, hK s st a (Ev.refl s) (prefix_refl' _) hs he⟩
    · have hrd := ready_iff hL
      revert he
      generalize hrs : readys done left = rs at hrd
      intro he
      have inLeft : ∀ p ∈ rs, p ∈ left := fun p hp => by rw [← hrs] at hp; exact (mem_readys.1 hp).1
      split at he
      · -- a pure one
        rename_i p hp
        obtain ⟨hpm, hpp⟩ := firstPure_spec hp
        have hpl := inLeft p hpm
        obtain ⟨hpo, hpu⟩ := hL.lft p hpl
        have hpr : p.1 ∈ ready .any ops L := (hrd p.1).2 ⟨p.2, hpm⟩
        obtain ⟨hL', hlen⟩ := hL.step hpl (eff' := eff) (.inl rfl)
        obtain ⟨m, rfl⟩ : ∃ m, fuel = m + 1 := ⟨_, hf.trans hlen⟩
        have noEff : ¬ effIdx ops p.1 := by
          rintro ⟨o, ho, h1, _⟩
          rw [hpo] at ho; simp at ho; subst ho
          rw [hpp] at h1; cases h1
        have take : ∀ (v : Value) (st' : St), YieldsIn P ops (fun _ => True) p.2 v a → SRel s st' (a.put p.2.dst v) → st'.h = st.h → eAny T G ops.toList n (p.1 :: done) eff (del p.1 left) obs st' K →
            wpAnyI P ops Q (Obs ops sobs) (m + 1) L a s.w := by
          intro v st' hy hs' hst' he'
          refine firstI (S := fun _ => True) (I' := Obs ops sobs) (F := fun _ => False) hpo hsel hQ hO (fun _ h => h.elim) (fun L' w' h' ob hb => ?_) (fun _ _ h => h) (fun _ _ _ _ _ => trivial) m L a s.w (hfree _ _ hpr hpo) hpr (fun _ h => h.elim) hy ?_
          · rcases h' ob hb with ⟨d, h1, h2, h3⟩ | h1
            · refine .inl ⟨d, h1, h2, ?_⟩
              rw [getD_set_ne false (fun e => noEff (by rw [e]; exact h2))] at h3
              exact h3
            · exact .inr h1
          · exact ih m _ _ _ obs sobs st' s _ _ K he' hs' hL' (by omega) (by rw [hst']; exact hob) hK
        rcases guard_ok hs he with ⟨hw, st', hst', hs', he⟩ | ⟨hw, st', hst', hs', he⟩
        · obtain ⟨av, v, h1, h2, h3⟩ := ePure_sound hT hs'.t hs'.h p.2 he
          exact take v _ (.inl ⟨hw, fun w _ => h1 w⟩) (hs'.put _ h2) hst' h3
        · exact take undef _ (.inr ⟨hw, rfl⟩) (hs'.put _ (undef_rel s)) hst' he
      · rename_i hnp
        split at he
        · -- a load
          rename_i p hp
          obtain ⟨hpm, hpp⟩ := firstLoad_spec hp
          have hpl := inLeft p hpm
          obtain ⟨hpo, hpu⟩ := hL.lft p hpl
          have hpr : p.1 ∈ ready .any ops L := (hrd p.1).2 ⟨p.2, hpm⟩
          obtain ⟨hL', hlen⟩ := hL.step hpl (eff' := eff) (.inl rfl)
          obtain ⟨m, rfl⟩ : ∃ m, fuel = m + 1 := ⟨_, hf.trans hlen⟩
          have noEff : ¬ effIdx ops p.1 := by
            rintro ⟨o, ho, _, h1⟩
            rw [hpo] at ho; simp at ho; subst ho
            rw [hpp] at h1; cases h1
          rcases guard_ok hs he with ⟨hw, st', hst', hs', he⟩ | ⟨hw, st', hst', hs', he⟩
          · -- it is carried out
            obtain ⟨t, x, hop⟩ : ∃ t x, p.2.op = .load t x := by
              cases hop : p.2.op <;> rw [hop] at hpp <;> first | exact ⟨_, _, rfl⟩ | cases hpp
            unfold eStep at he
            rw [hop] at he
            simp only [isPure] at he
            obtain ⟨av, v, r, h1, h2, h3, h4⟩ := eLoad_ok hT hs'.h he (ev_rel hs'.t x)
            have hrun : ∀ w, (∀ ad, Foot s r ad → w.cell? ad = s.w.cell? ad) → (execOp a.eval p.2).run P w = .ok (.value v) w := fun w hw' => by
              simp only [execOp, hop, Sem.run_bind, h1 w hw', Result.andThen_ok]; rfl
            have fspec := followers_spec p.1 (del p.1 left) []
            have dspec := (del_spec (n := p.1) hL.nodup).1
            obtain ⟨s1, av', hp', q1, q2, q3, q4, q5, q6, q7, q8⟩ := mat_ok hs'.h h3 h2
            refine firstI (S := fun w => ∀ ad, Foot s r ad → w.cell? ad = s.w.cell? ad) (I' := Obs ops (⟨followers p.1 (del p.1 left) [], Foot s r, s.w⟩ :: sobs)) (F := fun d => d ∈ followers p.1 (del p.1 left) []) hpo hsel hQ hO
              (fun d hd o ho => ?_) (fun L' w' h' ob hb => ?_) (fun L' w' h' ob hb => h' ob (List.mem_cons_of_mem _ hb)) (fun L' w' hun hF h' => ?_) m L a s.w (hfree _ _ hpr hpo) hpr (fun d hd => ?_) (.inl ⟨hw, hrun⟩) ?_
            · rcases fspec.2 d hd with h | ⟨o', ho', e, he, hb, h5⟩
              · cases h
              · have := (hL.lft _ (mem_del ho')).1
                simp only at this
                rw [ho] at this
                simp at this
                subst this
                exact ⟨e, by simpa using he, hb, h5⟩
            · rcases h' ob (List.mem_cons_of_mem _ hb) with ⟨d, h1, h2, h3⟩ | h1
              · refine .inl ⟨d, h1, h2, ?_⟩
                rw [getD_set_ne false (fun e => noEff (by rw [e]; exact h2))] at h3
                exact h3
              · exact .inr h1
            · rcases h' _ List.mem_cons_self with ⟨d, h1, h2, h3⟩ | h1
              · rw [getD_set_ne false (fun e => noEff (by rw [e]; exact h2))] at h3
                rw [hF d h1] at h3; cases h3
              · exact h1
            · rcases fspec.2 d hd with h | ⟨o', ho', _⟩
              · cases h
              · exact getD_of (hL.lft _ (mem_del ho')).2
            · rw [← q1]
              refine ih m _ _ _ _ _ _ s1 _ _ K q8 (hs'.next q2 q3 q4 _ q5) hL' (by omega) ?_ (fun s3 st3 a3 f1 f2 f3 f4 => hK s3 st3 a3 (q2.trans f1) (q3.trans f2) f3 f4)
              intro ob hb
              rcases List.mem_cons.1 hb with rfl | hb
              · exact .inr ⟨⟨_, r⟩, (mem_obsOf _ _ _).2 r (by simp), rfl, q7 _ h4, fun _ h => h.prefix q3, fun _ _ => by rw [q1]⟩
              · rcases hob ob hb with h | ⟨o, g1, g2, g3, g4, g5⟩
                · exact .inl h
                · exact .inr ⟨o, (mem_obsOf _ _ _).1 o g1, g2, q7 _ (by rw [hst']; exact g3), fun ad h => (g4 ad h).prefix q3, fun ad h => by rw [q1]; exact g5 ad h⟩
          · -- it is passed over
            refine firstI (S := fun _ => True) (I' := Obs ops sobs) (F := fun _ => False) (v := undef) hpo hsel hQ hO (fun _ h => h.elim) (fun L' w' h' ob hb => ?_) (fun _ _ h => h) (fun _ _ _ _ _ => trivial) m L a s.w (hfree _ _ hpr hpo) hpr (fun _ h => h.elim) (.inr ⟨hw, rfl⟩) ?_
            · rcases h' ob hb with ⟨d, h1, h2, h3⟩ | h1
              · refine .inl ⟨d, h1, h2, ?_⟩
                rw [getD_set_ne false (fun e => noEff (by rw [e]; exact h2))] at h3
                exact h3
              · exact .inr h1
            · exact ih m _ _ _ obs sobs _ s _ _ K he (hs'.put _ (undef_rel s)) hL' (by omega) (by simp only; rw [hst']; exact hob) hK
        · rename_i hnl
          -- effects: whichever of them comes
          split at he
          · exact he.elim
          · rename_i hne
            have hpos : ∃ p, p ∈ rs := by
              cases rs with
              | nil => exact absurd rfl hne
              | cons p l => exact ⟨p, List.mem_cons_self⟩
            obtain ⟨p0, hp0⟩ := hpos
            have hlen0 := (hL.step (inLeft p0 hp0) (eff' := eff) (.inl rfl)).2
            obtain ⟨m, rfl⟩ : ∃ m, fuel = m + 1 := ⟨_, hf.trans hlen0⟩
            refine ⟨hnow, fun h => ?_, fun i hi => ?_⟩
            · have := (hrd p0.1).2 ⟨p0.2, hp0⟩
              rw [h] at this
              cases this
            · obtain ⟨o, ho⟩ := (hrd i).1 hi
              have he := allOf_mem he _ ho
              simp only at he
              have hpl := inLeft _ ho
              obtain ⟨hpo, hpu⟩ := hL.lft _ hpl
              simp only at hpo hpu
              have hkinds := And.intro (firstPure_none hnp _ ho) (firstLoad_none hnl _ ho)
              obtain ⟨hL', hlen⟩ := hL.step hpl (eff' := i :: eff) (.inr ⟨rfl, hkinds⟩)
              simp only at hL' hlen
              unfold wpOp
              simp only [hpo]
              rcases guard_ok hs he with ⟨hw, st', hst', hs', he⟩ | ⟨hw, st', hst', hs', he⟩
              · rw [if_pos hw]
                refine .inl (step_sound hT hG hs' he fun s2 st2 r tc a2 e1 e2 e3 e4 e5 => ?_)
                split at e5
                · rename_i hk
                  refine ih m _ _ _ obs sobs st2 s2 a2 _ K e5 e3 hL' (by omega) ?_ (fun s3 st3 a3 f1 f2 f3 f4 => hK s3 st3 a3 (e1.trans f1) (e2.trans f2) f3 f4)
                  intro ob hb
                  rcases hob ob hb with ⟨d, h1, h2⟩ | ⟨q, g1, g2, g3, g4, g5⟩
                  · exact .inl ⟨d, h1, List.mem_cons_of_mem _ h2⟩
                  · rcases keeps_spec hk q g1 with h | h
                    · obtain ⟨d, h1, h2⟩ := anyIn_true h
                      exact .inl ⟨d, by rw [← g2]; exact h1, h2⟩
                    · rw [hst'] at e4
                      obtain ⟨u1, u2⟩ := e4 q.tch h g3
                      exact .inr ⟨q, g1, g2, u1, fun ad h => (g4 ad h).prefix e2, fun ad h => by rw [u2 ad (g4 ad h), g5 ad h]⟩
                · exact e5.elim
              · rw [if_neg (by rw [hw]; simp)]
                refine ih m _ _ _ obs sobs _ s _ _ K he (hs'.put _ (undef_rel s)) hL' (by omega) ?_ hK
                simp only
                rw [hst']
                intro ob hb
                rcases hob ob hb with ⟨d, h1, h2⟩ | h
                · exact .inl ⟨d, h1, List.mem_cons_of_mem _ h2⟩
                · exact .inr h
omit hT hG hok hQ hO in
theorem num_spec {α : Type} : ∀ (l : List α) (n : Nat), (∀ p, p ∈ num n l ↔ n ≤ p.1 ∧ l[p.1 - n]? = some p.2) ∧ ((num n l).map (·.1)) = List.range' n l.length
  | [], n => ⟨fun p => by simp [num], rfl⟩
  | a :: l, n => by
    obtain ⟨h1, h2⟩ := num_spec l (n + 1)
    refine ⟨fun p => ?_, ?_⟩
    · simp only [num, List.mem_cons, h1]
      constructor
      · rintro (rfl | ⟨e1, e2⟩)
        · simp
        · refine ⟨by omega, ?_⟩
          rw [show p.1 - n = (p.1 - (n + 1)) + 1 by omega]
          simpa using e2
      · rintro ⟨e1, e2⟩
        by_cases e : p.1 = n
        · left
          rw [e] at e2
          simp at e2
          exact Prod.ext e e2.symm
        · right
          refine ⟨by omega, ?_⟩
          rw [show p.1 - n = (p.1 - (n + 1)) + 1 by omega] at e2
          simpa using e2
    · simp [num, h2, List.range'_succ]
theorem region_sound (hm : P.follows .mixedOrders = true) {id : Nat} {st : St} {s : Sit} {a : Act} {K : St → Prop} (he : eAny T G ops.toList (len ops.toList + 1) [] [] (num 0 ops.toList) [] st K) (hs : SRel s st a)
    (hK : ∀ s' st' a', Ev s s' → s.base <+: s'.base → SRel s' st' a' → K st' → Q .normal a' s'.w) : (Code.region id ops true).wp P Q a s.w := by
  refine wp_region_any hm (wpAny_of_I _ _ _ _ (I := Obs ops []) ?_)
  obtain ⟨n1, n2⟩ := num_spec ops.toList 0
  refine any_sound hT hG hok hQ hO _ _ [] [] (num 0 ops.toList) [] [] st s.drew a _ K he ⟨drew_ok hs.h, VRels.mono (drew_ev s) (prefix_refl' _) _ _ hs.t, hs.d⟩ ⟨by simp, ?_, ?_, ?_, (fun d h => by cases h), ?_⟩ ?_ (fun ob h => by cases h) fun s' st' a' e1 e2 e3 e4 => hK s' st' a' ((drew_ev s).trans e1) e2 e3 e4
  · intro p hp
    obtain ⟨_, h2⟩ := (n1 p).1 hp
    simp at h2
    have := (Array.getElem?_eq_some_iff.1 h2).1
    exact ⟨h2, by simp [this]⟩
  · intro j o hj _
    exact (n1 _).2 ⟨Nat.zero_le _, by simpa using hj⟩
  · intro j
    simp only [memN]
    by_cases h : j < ops.size
    · simp [h]
    · simp [h]
  · rw [n2]; exact List.nodup_range'
  · have := congrArg List.length n2
    simpa using this.symm
end
end Go.Sy
end
