/- Put together by a program of this work out of its texts SyW, SyX, Tab, SyY. -/
import Derived.Test.YtlgmbpnlakjefaaDoorM8
import Derived.LoopN
import Derived.Test.YtlgmbpnlakjefaaDoorProg
import Derived.KernelRfl
section
/- Soundness: code, loops, results, functions. -/
namespace Go.Sy
set_option linter.unusedSimpArgs false
set_option linter.unusedVariables false
set_option linter.unusedSectionVars false

/-- the first k objects stay in their places -/
structure Kp (k : Nat) (s s' : Sit) : Prop where
  take : s'.base.take k = s.base.take k
  le : k ≤ s'.base.length
theorem Kp.trans {k : Nat} {s s' s'' : Sit} (h : Kp k s s') (h' : Kp k s' s'') : Kp k s s'' := ⟨h'.take.trans h.take, h'.le⟩
theorem Kp.refl {k : Nat} {s : Sit} (h : k ≤ s.base.length) : Kp k s s := ⟨rfl, h⟩
theorem Kp.of_prefix {k : Nat} {s s' : Sit} (hk : k ≤ s.base.length) (hp : s.base <+: s'.base) : Kp k s s' := by
  obtain ⟨t, ht⟩ := hp
  refine ⟨by rw [← ht, List.take_append_of_le_length hk], by rw [← ht, List.length_append]; omega⟩
def exOf : Ex → Exit
  | .normal => .normal
  | .exit i => .exit i
  | .ret => .ret
def PostC (s : Sit) (k : Nat) (Q : Ex → St → Prop) : Exit → Act → World → Prop := fun e a w => ∃ ex, exOf ex = e ∧ ∃ s' st', Ev s s' ∧ Kp k s s' ∧ SRel s' st' a ∧ s'.w = w ∧ Q ex st'
theorem PostC.back {s s1 : Sit} {k : Nat} {Q : Ex → St → Prop} (hE : Ev s s1) (hk : Kp k s s1) {e : Exit} {a : Act} {w : World} (h : PostC s1 k Q e a w) : PostC s k Q e a w := by
  obtain ⟨ex, h1, s', st', h2, h3, h4⟩ := h
  exact ⟨ex, h1, s', st', hE.trans h2, hk.trans h3, h4⟩
theorem PostC.noPanic {s : Sit} {k : Nat} {Q : Ex → St → Prop} (c : List PanicEntry) (a : Act) (w : World) : ¬ PostC s k Q (.panic c) a w := by
  rintro ⟨ex, h, _⟩; cases ex <;> cases h
theorem PostC.noOut {s : Sit} {k : Nat} {Q : Ex → St → Prop} : ¬ LetsOut (PostC s k Q) := by
  rintro ⟨a, w, ex, h, _⟩; cases ex <;> cases h
def codeOk : Code → Bool
  | .region _ ops draw => !draw || regOk ops
  | .seq a b => codeOk a && codeOk b
  | .cond _ a b => codeOk a && codeOk b
  | .block _ a => codeOk a
  | .loop a => codeOk a
  | _ => true
theorem mask_rel {s : Sit} (keep : List Nat) : ∀ (l : List AV) (vs : List Value) (i : Nat), VRels s l vs → VRels s (maskT keep i l) vs
  | [], vs, i, h => by simpa [maskT] using h
  | a :: l, vs, i, h => by
    simp only [VRels] at h
    obtain ⟨v, r, rfl, h1, h2⟩ := h
    simp only [maskT, VRels]
    refine ⟨v, r, rfl, ?_, mask_rel keep l r (i + 1) h2⟩
    split
    · exact h1
    · simp [VRel]
/-- a nil list is an object of no rows, too -/
theorem nil_sl {s : Sit} {h : Heap} (hlen : s.base.length = h.length) {sig : List Kd} (h0 : 0 < sig.length) : VRel { s with base := s.base ++ [((none : Option Addr), sig.length)] } (nilSl h sig) (.slice none 0 0) := by
  unfold nilSl
  simp only [VRel]
  exact ⟨none, 0, rfl, Nat.le_refl _, Nat.le_refl _, by simp, by rw [len_eq]; exact h0, by simp [len_eq, hlen], .inl rfl⟩
/-- an object's cells, said in another way -/
theorem recell_ok {s : Sit} {h : Heap} (hh : HRel s h) {b : Nat} {mt : Bool} {l l' : List AV} (ho : nth h b = some (some ⟨mt, .cells l⟩)) (hl : ∀ j a', nth l' j = some a' → ∃ a, nth l j = some a ∧ ∀ v, VRel s a v → VRel s a' v) :
    HRel s (upd h b (some ⟨mt, .cells l'⟩)) := by
  have old : ∀ j x, nth (upd h b (some (⟨mt, .cells l'⟩ : Obj))) j = some (some x) → (j = b ∧ x = ⟨mt, .cells l'⟩) ∨ nth h j = some (some x) := by
    intro j x hx
    rw [nth_upd] at hx
    split at hx
    · subst_vars; rw [ho] at hx; simp at hx; exact .inl ⟨rfl, hx.symm⟩
    · exact .inr hx
  refine ⟨by rw [upd_eq]; simpa using hh.len, ?_, ?_, hh.ownlt, hh.hidlt, hh.apart, hh.fix⟩
  · intro j x hx
    rcases old j x hx with ⟨rfl, rfl⟩ | hx
    · obtain ⟨ab, sz, h1, ad, h2, h3, h4, h5⟩ := hh.obj j _ ho
      refine ⟨ab, sz, h1, ad, h2, h3, fun i a' ha => ?_, h5⟩
      obtain ⟨a, g1, g2⟩ := hl i a' ha
      obtain ⟨v, g3, g4⟩ := h4 i a g1
      exact ⟨v, g3, g2 v g4⟩
    · exact hh.obj j x hx
  · intro j k x q a a' z y hj hk hmx hmq ha ha' haa
    have lift : ∀ j x, x.mt = true → nth (upd h b (some (⟨mt, .cells l'⟩ : Obj))) j = some (some x) → ∃ x', x'.mt = true ∧ nth h j = some (some x') := by
      intro j x hx hj
      rcases old j x hj with ⟨rfl, rfl⟩ | hj
      · exact ⟨⟨mt, .cells l⟩, hx, ho⟩
      · exact ⟨x, hx, hj⟩
    obtain ⟨x', h1, h2⟩ := lift j x hmx hj
    obtain ⟨q', h3, h4⟩ := lift k q hmq hk
    exact hh.inj j k x' q' a a' z y h2 h4 h1 h3 ha ha' haa
theorem upd_append {α : Type} {l m : List α} {b : Nat} (hb : b < l.length) (x : α) : upd (l ++ m) b x = upd l b x ++ m := by
  rw [upd_eq, upd_eq, List.set_append_left _ _ hb]
theorem nilify_ok {k : Nat} : ∀ (g : List Nl) (s : Sit) (st : St) (a : Act), SRel s st a → k ≤ s.base.length → ∃ s1, s1.w = s.w ∧ Ev s s1 ∧ Kp k s s1 ∧ SRel s1 (nilify g st) a
  | [], s, st, a, hs, hk => ⟨s, rfl, Ev.refl s, Kp.refl hk, hs⟩
  | .slot i sig :: g, s, st, a, hs, hk => by
    simp only [nilify]
    split
    · rename_i hn
      split
      · rename_i h0
        have h0 : 0 < sig.length := by rw [Nat.blt_eq, len_eq] at h0; exact h0
        have hh := nilobj_ok hs.h (sig := sig) (l := fun _ => []) h0 rfl
        have hE : Ev s { s with base := s.base ++ [((none : Option Addr), sig.length)] } := ⟨Nat.le_refl _, fun _ _ _ => rfl, fun _ _ => rfl, fun _ h => .inl h, rfl, rfl, rfl⟩
        have hp : s.base <+: { s with base := s.base ++ [((none : Option Addr), sig.length)] }.base := List.prefix_append _ _
        have hkp : Kp k s { s with base := s.base ++ [((none : Option Addr), sig.length)] } := Kp.of_prefix hk hp
        obtain ⟨v, hv, hr⟩ := hs.t.nth hn
        simp only [VRel] at hr
        subst hr
        have ht : VRels { s with base := s.base ++ [((none : Option Addr), sig.length)] } (upd st.t i (nilSl st.h sig)) a.tmps.toList := by
          refine VRels.mk (by rw [upd_eq, List.length_set]; exact hs.t.length) fun j x hx => ?_
          rw [nth_upd] at hx
          split at hx
          · rename_i e
            subst e
            rw [hn] at hx
            simp at hx
            subst hx
            exact ⟨_, hv, nil_sl hs.h.len h0⟩
          · obtain ⟨u, hu, hr⟩ := hs.t.nth hx
            exact ⟨u, hu, VRel.mono hE hp _ _ hr⟩
        obtain ⟨s1, q1, q2, q3, q4⟩ := nilify_ok g _ ⟨upd st.t i (nilSl st.h sig), st.h ++ [nilOb sig]⟩ a ⟨hh, ht, hs.d⟩ hkp.le
        exact ⟨s1, q1, hE.trans q2, hkp.trans q3, q4⟩
      · exact nilify_ok g s st a hs hk
    · exact nilify_ok g s st a hs hk
  | .cell b f sig :: g, s, st, a, hs, hk => by
    simp only [nilify]
    split
    · rename_i o ho
      split
      · rename_i l hc
        split
        · rename_i hn
          split
          · rename_i h0
            have h0 : 0 < sig.length := by rw [Nat.blt_eq, len_eq] at h0; exact h0
            have hh := nilobj_ok hs.h (sig := sig) (l := fun _ => []) h0 rfl
            have hE : Ev s { s with base := s.base ++ [((none : Option Addr), sig.length)] } := ⟨Nat.le_refl _, fun _ _ _ => rfl, fun _ _ => rfl, fun _ h => .inl h, rfl, rfl, rfl⟩
            have hp : s.base <+: { s with base := s.base ++ [((none : Option Addr), sig.length)] }.base := List.prefix_append _ _
            have hkp : Kp k s { s with base := s.base ++ [((none : Option Addr), sig.length)] } := Kp.of_prefix hk hp
            have ho' : nth (st.h ++ [(some ⟨true, .rows sig fun _ => []⟩ : Option Obj)]) b = some (some ⟨o.mt, .cells l⟩) := by
              rw [nth_append, if_pos (nth_some_lt ho), ho, ← hc]
            have hh2 := recell_ok hh ho' (l' := upd l f (nilSl st.h sig)) fun j a' ha => by
              rw [nth_upd] at ha
              split at ha
              · rename_i e
                subst e
                rw [hn] at ha
                simp at ha
                subst ha
                refine ⟨_, hn, fun v hv => ?_⟩
                simp only [VRel] at hv
                subst hv
                exact nil_sl hs.h.len h0
              · exact ⟨a', ha, fun v h => h⟩
            rw [upd_append (nth_some_lt ho)] at hh2
            obtain ⟨s1, q1, q2, q3, q4⟩ := nilify_ok g _ ⟨st.t, upd st.h b (some ⟨o.mt, .cells (upd l f (nilSl st.h sig))⟩) ++ [nilOb sig]⟩ a ⟨hh2, VRels.mono hE hp _ _ hs.t, hs.d⟩ hkp.le
            exact ⟨s1, q1, hE.trans q2, hkp.trans q3, q4⟩
          · exact nilify_ok g s st a hs hk
        · exact nilify_ok g s st a hs hk
      · exact nilify_ok g s st a hs hk
    · exact nilify_ok g s st a hs hk
theorem sK_eq {a b : IntKind} (h : sK a b) : a = b := by
  unfold sK at h
  split at h
  · exact kEq_eq ‹_›
  · cases h; assumption
theorem sS_eq {a b : List Kd} (h : sS a b) : a = b := by
  unfold sS at h
  split at h
  · exact sigEq_eq ‹_›
  · cases h; assumption
theorem sZ_eq {a b : Nat} (h : sZ a b) : a = b := by
  unfold sZ at h
  split at h
  · exact Nat.eq_of_beq_eq_true ‹_›
  · cases h; assumption
theorem sN_eq {a b : NX} (h : sN a b) : a.v = b.v := by
  unfold sN at h
  split at h
  · split at h
    · split at h
      · rename_i hb
        rw [Nat.eq_of_beq_eq_true hb]
      · cases h; assumption
    · cases h; assumption
  · cases h; assumption
theorem sF_eq {a b : Fn} (h : sF a b) : a = b := by
  unfold sF at h
  split at h
  · split at h
    · split at h
      · rename_i hb
        rw [Nat.eq_of_beq_eq_true hb]
      · cases h; assumption
    · cases h; assumption
  · cases h; assumption
theorem sB_eq {a b : Bool} (h : sB a b) : a = b := by
  cases a <;> cases b <;> first | rfl | exact h.elim
mutual
theorem wv_rel {s : Sit} : ∀ (a b : AV) (v : Value), wv a b → VRel s a v → VRel s b v
  | .undef, b, v, h, hr => by
    unfold wv at h
    split at h
    · exact hr
    · exact h.elim
  | .bool x, b, v, h, hr => by
    unfold wv at h
    split at h
    · simp [VRel]
    · obtain ⟨h⟩ := h
      simp only [VRel] at hr ⊢; rw [← h]; exact hr
    · exact h.elim
  | .int k x, b, v, h, hr => by
    unfold wv at h
    split at h
    · simp [VRel]
    · obtain ⟨hk, ⟨h⟩⟩ := h
      obtain rfl := sK_eq hk
      simp only [VRel] at hr ⊢; rw [← h]; exact hr
    · exact h.elim
  | .nilp, b, v, h, hr => by
    unfold wv at h
    split at h
    · simp [VRel]
    · exact hr
    · exact h.elim
  | .ptr o i f, b, v, h, hr => by
    unfold wv at h
    split at h
    · simp [VRel]
    · obtain ⟨ho, h1, h2⟩ := h
      have h1 := sN_eq h1
      have h2 := sN_eq h2
      obtain rfl := sZ_eq ho
      simp only [VRel] at hr ⊢; rw [← h1, ← h2]; exact hr
    · exact h.elim
  | .nils, b, v, h, hr => by
    unfold wv at h
    split at h
    · simp [VRel]
    · exact hr
    · exact h.elim
  | .sl o i f z n c x, b, v, h, hr => by
    unfold wv at h
    split at h
    · simp [VRel]
    · obtain ⟨ho, h1, h2, hz, h3, ⟨h4⟩, ⟨h5⟩, h6⟩ := h
      have h1 := sN_eq h1
      have h2 := sN_eq h2
      have h3 := sN_eq h3
      obtain rfl := sZ_eq ho
      obtain rfl := sZ_eq hz
      simp only [VRel] at hr ⊢
      obtain ⟨a, cap, e1, e2, e3, e4, e5, e6, e7⟩ := hr
      refine ⟨a, cap, by rw [← h3]; exact e1, h4, by omega, fun hx => ?_, e5, e6, by rw [← h1, ← h2]; exact e7⟩
      subst hx
      unfold sE at h6
      simp only at h6
      split at h6
      · obtain ⟨g2⟩ := h6
        rw [← g2]; exact e4 rfl
      · exact h6.elim
    · exact h.elim
  | .ro sig l, b, v, h, hr => by
    unfold wv at h
    split at h
    · simp [VRel]
    · obtain ⟨hs, ⟨h⟩⟩ := h
      obtain rfl := sS_eq hs
      simp only [VRel] at hr ⊢; rw [← h]; exact hr
    · exact h.elim
  | .gp g i, b, v, h, hr => by
    unfold wv at h
    split at h
    · simp [VRel]
    · obtain ⟨hg, h1⟩ := h
      obtain rfl := sZ_eq hg
      have h1 := sN_eq h1
      simp only [VRel] at hr ⊢; rw [← h1]; exact hr
    · exact h.elim
  | .nilf, b, v, h, hr => by
    unfold wv at h
    split at h
    · simp [VRel]
    · exact hr
    · exact h.elim
  | .func fn fs cs, b, v, h, hr => by
    unfold wv at h
    split at h
    · simp [VRel]
    · obtain ⟨hf, h1, h2⟩ := h
      obtain rfl := sF_eq hf
      simp only [VRel] at hr ⊢
      obtain ⟨a, b, e1, e2, e3⟩ := hr
      exact ⟨a, b, e1, wvs_rel _ _ _ h1 e2, wvs_rel _ _ _ h2 e3⟩
    · exact h.elim
  | .agg cs, b, v, h, hr => by
    unfold wv at h
    split at h
    · simp [VRel]
    · simp only [VRel] at hr ⊢
      obtain ⟨a, e1, e2⟩ := hr
      exact ⟨a, e1, wvs_rel _ _ _ h e2⟩
    · exact h.elim
  | .arr sig l, b, v, h, hr => by
    unfold wv at h
    split at h
    · simp [VRel]
    · obtain ⟨hs, ⟨h⟩⟩ := h
      obtain rfl := sS_eq hs
      simp only [VRel] at hr ⊢; rw [← h]; exact hr
    · exact h.elim
  | .tuple cs, b, v, h, hr => by
    unfold wv at h
    split at h
    · simp [VRel]
    · simp only [VRel] at hr ⊢
      obtain ⟨a, e1, e2⟩ := hr
      exact ⟨a, e1, wvs_rel _ _ _ h e2⟩
    · exact h.elim
theorem wvs_rel {s : Sit} : ∀ (l m : List AV) (vs : List Value), wvs l m → VRels s l vs → VRels s m vs
  | [], m, vs, h, hr => by
    unfold wvs at h
    split at h
    · exact hr
    · exact h.elim
  | a :: l, m, vs, h, hr => by
    unfold wvs at h
    split at h
    · obtain ⟨h1, h2⟩ := h
      simp only [VRels] at hr ⊢
      obtain ⟨v, r, rfl, e1, e2⟩ := hr
      exact ⟨v, r, rfl, wv_rel _ _ _ h1 e1, wvs_rel _ _ _ h2 e2⟩
    · exact h.elim
end
theorem wvs_nth : ∀ {l m : List AV}, wvs l m → ∀ {j b}, nth m j = some b → ∃ a, nth l j = some a ∧ wv a b
  | [], m, h, j, b, hb => by
    unfold wvs at h
    split at h
    · cases hb
    · exact h.elim
  | a :: l, m, h, j, b, hb => by
    unfold wvs at h
    split at h
    · cases j with
      | zero => simp [nth] at hb; subst hb; exact ⟨a, rfl, h.1⟩
      | succ j => exact wvs_nth h.2 (by simpa [nth] using hb)
    · exact h.elim
theorem whs_nth : ∀ {l m : Heap}, whs l m → l.length = m.length ∧ ∀ {j b}, nth m j = some (some b) → ∃ a, nth l j = some (some a) ∧ a.mt = b.mt ∧ wc a.c b.c
  | [], m, h => by
    unfold whs at h
    split at h
    · exact ⟨rfl, fun hb => by cases hb⟩
    · exact h.elim
  | a :: l, m, h => by
    unfold whs at h
    split at h
    · rename_i b m'
      obtain ⟨h1, h2⟩ := whs_nth h.2
      refine ⟨by simp [h1], fun {j b'} hb => ?_⟩
      cases j with
      | zero =>
        simp [nth] at hb
        subst hb
        have h3 := h.1
        cases a with
        | none => exact h3.elim
        | some a => exact ⟨a, rfl, sB_eq h3.1, h3.2⟩
      | succ j => exact h2 (by simpa [nth] using hb)
    · exact h.elim
theorem wh_ok {s : Sit} {h h' : Heap} (hh : HRel s h) (hw : whs h h') : HRel s h' := by
  obtain ⟨h1, h2⟩ := whs_nth hw
  refine ⟨by rw [hh.len, h1], fun j o ho => ?_, fun j k o q a b z y hj hk ho hq => ?_, hh.ownlt, hh.hidlt, hh.apart, hh.fix⟩
  · obtain ⟨o', g1, g2, g3⟩ := h2 ho
    obtain ⟨ab, sz, e1, e2⟩ := hh.obj j o' g1
    refine ⟨ab, sz, e1, ?_⟩
    rw [g2] at e2
    unfold wc at g3
    split at g3
    · rename_i l hl
      rw [hl] at e2
      split at g3
      · rename_i l' hl'
        rw [hl']
        obtain ⟨ad, f1, f2, f3, f4⟩ := e2
        exact ⟨ad, f1, f2, fun j b hb => by
          obtain ⟨a, q1, q2⟩ := wvs_nth g3 hb
          obtain ⟨v, q3, q4⟩ := f3 j a q1
          exact ⟨v, q3, wv_rel _ _ _ q2 q4⟩, f4⟩
      · exact g3.elim
    · rename_i sig l hl
      rw [hl] at e2
      split at g3
      · rename_i sig' l' hl'
        rw [hl']
        obtain ⟨hs, ⟨g3⟩⟩ := g3
        obtain rfl := sS_eq hs
        simp only
        rw [← g3]
        exact e2
      · exact g3.elim
  · obtain ⟨o', g1, g2, _⟩ := h2 hj
    obtain ⟨q', g3, g4, _⟩ := h2 hk
    exact hh.inj j k o' q' a b z y g1 g3 (g2.trans ho) (g4.trans hq)
theorem norm_ok {s : Sit} {st : St} {a : Act} (hs : SRel s st a) {keep : List Nat} {k : Nat} (hk : k ≤ s.base.length) : ∃ s1, s1.w = s.w ∧ Ev s s1 ∧ Kp k s s1 ∧ SRel s1 (norm keep k st) a := by
  have hg := (refsL_grows (iota k 0) (maskT keep 0 st.t)).trans (reach_grows st.h (len st.h) 0 (refsL (iota k 0) (maskT keep 0 st.t)))
  obtain ⟨g1, g2⟩ := gc_ok hs.h (hg.2 (iota_nodup k 0))
  have hpre := locBase_keep hk hg.1
  refine ⟨⟨s.w, locBase s (reach st.h (len st.h) 0 (refsL (iota k 0) (maskT keep 0 st.t))), s.own, s.hid⟩, rfl, ⟨Nat.le_refl _, fun _ _ _ => rfl, fun _ _ => rfl, fun _ h => .inl h, rfl, rfl, rfl⟩, ⟨?_, ?_⟩, g1, ?_, hs.d⟩
  · simp only
    obtain ⟨t, ht⟩ := hpre
    rw [← ht]
    rw [List.take_append_of_le_length (by simp; omega)]
    rw [List.take_take, Nat.min_self]
  · have h1 := hpre.length_le
    rw [List.length_take, Nat.min_eq_left hk] at h1
    exact h1
  · exact VRels.ren g2 (ren_loc (List.prefix_refl _)) _ _ (mask_rel keep _ _ 0 hs.t)
def resOf (a : Act) : ResultVar → Sem Value
  | .tmp t => pure (a.tmps.getD t undef)
  | .cell c t => do loadVar t (← asAddr (a.tmps.getD c undef))
section
variable {P : Program} {T : Tab} (hT : TabOk P T) {G : Env} (hG : EnvOk P G) (hm : P.follows .mixedOrders = true)
include hT hG hm
theorem iter_sound {k : Nat} {c : Code} {Q : Ex → St → Prop} {keep : List Nat}
    (hc : ∀ (st : St) (s : Sit) (a : Act) (Q : Ex → St → Prop), eCode T G k c st Q → SRel s st a → k ≤ s.base.length → c.wp P (PostC s k Q) a s.w) :
    ∀ (n : Nat) (s0 : Sit) (st : St) (s : Sit) (a : Act), eIter (eCode T G k c) (gen keep k) Q n st → SRel s st a → k ≤ s.base.length → Ev s0 s → Kp k s0 s → Code.rounds P c (PostC s0 k Q) n a s.w
  | 0, _, _, _, _, h, _, _, _, _ => h.elim
  | n + 1, s0, st, s, a, h, hs, hk, hE, hkp => by
    unfold eIter at h
    unfold Code.rounds
    obtain ⟨s1, hw, e1, e2, e3⟩ := norm_ok hs (keep := keep) hk
    obtain ⟨st1, hg, h⟩ := h
    have e3 : SRel s1 st1 a := ⟨wh_ok e3.h hg.2, wvs_rel _ _ _ hg.1 e3.t, e3.d⟩
    have := hc _ s1 a _ h e3 e2.le
    rw [hw] at this
    refine wp_mono this ?_
    rintro e a' w' ⟨ex, rfl, s', st', f1, f2, f3, rfl, f4⟩
    have hE' := (hE.trans e1).trans f1
    have hkp' := (hkp.trans e2).trans f2
    cases ex with
    | normal => exact iter_sound hc n s0 st' s' a' f4 f3 f2.le hE' hkp'
    | exit i => exact ⟨.exit i, rfl, s', st', hE', hkp', f3, rfl, f4⟩
    | ret => exact ⟨.ret, rfl, s', st', hE', hkp', f3, rfl, f4⟩
theorem code_sound {k : Nat} : ∀ (c : Code), codeOk c = true → ∀ (st : St) (s : Sit) (a : Act) (Q : Ex → St → Prop), eCode T G k c st Q → SRel s st a → k ≤ s.base.length → c.wp P (PostC s k Q) a s.w := by
  intro c
  induction c with
  | skip =>
    intro _ st s a Q h hs hk
    unfold eCode at h
    exact wp_skip ⟨.normal, rfl, s, st, Ev.refl s, Kp.refl hk, hs, rfl, h⟩
  | region id ops draw =>
    intro hok st s a Q h hs hk
    unfold eCode at h
    have fin : ∀ s' st' a', Ev s s' → s.base <+: s'.base → SRel s' st' a' → Q .normal st' → PostC s k Q .normal a' s'.w := fun s' st' a' e1 e2 e3 e4 => ⟨.normal, rfl, s', st', e1, Kp.of_prefix hk e2, e3, rfl, e4⟩
    cases draw with
    | false => exact wp_region_list (ops_sound hT hG _ s st a _ hs h fin)
    | true =>
      simp only [codeOk, Bool.not_true, Bool.false_or] at hok
      exact region_sound hT hG hok PostC.noPanic PostC.noOut hm h hs fin
  | seq x y ihx ihy =>
    intro hok st s a Q h hs hk
    simp only [codeOk, Bool.and_eq_true] at hok
    unfold eCode at h
    refine wp_seq (wp_mono (ihx hok.1 st s a _ h hs hk) ?_)
    rintro e a' w' ⟨ex, rfl, s', st', f1, f2, f3, rfl, f4⟩
    cases ex with
    | normal => exact wp_mono (ihy hok.2 st' s' a' Q f4 f3 f2.le) fun e a w h => h.back f1 f2
    | exit i => exact ⟨.exit i, rfl, s', st', f1, f2, f3, rfl, f4⟩
    | ret => exact ⟨.ret, rfl, s', st', f1, f2, f3, rfl, f4⟩
  | cond c x y ihx ihy =>
    intro hok st s a Q h hs hk
    simp only [codeOk, Bool.and_eq_true] at hok
    unfold eCode at h
    have hc := ev_rel (a := a) hs.t c
    split at h
    · rename_i b hb
      rw [hb] at hc
      simp only [VRel] at hc
      split at h
      · exact wp_cond_true hc (ihx hok.1 st s a Q h hs hk)
      · exact wp_cond_false hc (ihy hok.2 st s a Q h hs hk)
      · rename_i f
        cases h with
        | mk h1 h2 => exact wp_cond_split hc (fun e => ihx hok.1 st s a Q (h1 e) hs hk) fun e => ihy hok.2 st s a Q (h2 e) hs hk
    · exact h.elim
  | block id c ih =>
    intro hok st s a Q h hs hk
    simp only [codeOk] at hok
    unfold eCode at h
    refine wp_block (wp_mono (ih hok st s a _ h hs hk) ?_)
    rintro e a' w' ⟨ex, rfl, s', st', f1, f2, f3, rfl, f4⟩
    cases ex with
    | normal => exact ⟨.normal, rfl, s', st', f1, f2, f3, rfl, f4⟩
    | exit i =>
      simp only [exOf, Exit.inBlock]
      simp only [blockQ] at f4
      by_cases hi : i = id
      · rw [if_pos hi]
        subst hi
        rw [Nat.beq_refl] at f4
        exact ⟨.normal, rfl, s', st', f1, f2, f3, rfl, f4⟩
      · rw [if_neg hi]
        have : Nat.beq i id = false := by
          cases hb : Nat.beq i id
          · rfl
          · exact absurd (Nat.eq_of_beq_eq_true hb) hi
        rw [this] at f4
        exact ⟨.exit i, rfl, s', st', f1, f2, f3, rfl, f4⟩
    | ret => exact ⟨.ret, rfl, s', st', f1, f2, f3, rfl, f4⟩
  | loop c ih =>
    intro hok st s a Q h hs hk
    simp only [codeOk] at hok
    unfold eCode at h
    obtain ⟨n, keep, g, h⟩ := h
    obtain ⟨s1, q1, q2, q3, q4⟩ := nilify_ok g s st a hs hk
    have := wp_loop_rounds n (iter_sound hT hG hm (ih hok) n s1 _ s1 a h q4 q3.le (Ev.refl s1) (Kp.refl q3.le))
    rw [q1] at this
    exact wp_mono this fun e a w h => h.back q2 q3
  | exit id =>
    intro _ st s a Q h hs hk
    unfold eCode at h
    exact wp_exit ⟨.exit id, rfl, s, st, Ev.refl s, Kp.refl hk, hs, rfl, h⟩
  | ret =>
    intro _ st s a Q h hs hk
    unfold eCode at h
    exact wp_ret ⟨.ret, rfl, s, st, Ev.refl s, Kp.refl hk, hs, rfl, h⟩
  | rangeFunc f ps x y ihx ihy => intro _ st s a Q h; unfold eCode at h; exact h.elim
  | scope c ih => intro _ st s a Q h; unfold eCode at h; exact h.elim
  | label l => intro _ st s a Q h; unfold eCode at h; exact h.elim
  | goto l => intro _ st s a Q h; unfold eCode at h; exact h.elim
  | refuse w => intro _ st s a Q h; unfold eCode at h; exact h.elim
omit hG hm in
theorem res_sound {s : Sit} {st : St} {a : Act} (hs : SRel s st a) : ∀ (rs : List ResultVar) (K : List AV → Prop), eRes T st rs K →
    ∃ vs us, K vs ∧ VRels s vs us ∧ us.length = rs.length ∧ (rs.mapM (resOf a)).run P s.w = .ok us s.w
  | [], K, h => ⟨[], [], h, by simp [VRels], rfl, by simp⟩
  | .tmp t :: l, K, h => by
    simp only [eRes] at h
    split at h
    · rename_i v hv
      obtain ⟨u, hu, hr⟩ := hs.t.array hv
      obtain ⟨vs, us, h1, h2, h3, h4⟩ := res_sound hs l _ h
      refine ⟨_, u :: us, h1, by simp only [VRels]; exact ⟨u, us, rfl, hr, h2⟩, by simp [h3], ?_⟩
      have hgd : a.tmps.getD t undef = u := by simp [hu]
      rw [List.mapM_cons]
      simp only [Sem.run_bind, Sem.run_pure, Result.andThen_ok, h4, hgd, resOf]
    · exact h.elim
  | .cell c t :: l, K, h => by
    simp only [eRes] at h
    split at h
    · rename_i v hv
      obtain ⟨u, hu, hr⟩ := hs.t.array hv
      have hp : ∃ ad, u = .pointer (some ad) := by
        unfold eLoad at h
        split at h
        · simp only [VRel] at hr
          obtain ⟨ad, _, rfl⟩ := hr
          exact ⟨ad, rfl⟩
        · exact h.elim
      obtain ⟨av, v', r, h1, h2, h3, h4⟩ := eLoad_ok hT hs.h h hr
      obtain ⟨vs, us, g1, g2, g3, g4⟩ := res_sound hs l _ h3
      refine ⟨_, v' :: us, g1, by simp only [VRels]; exact ⟨v', us, rfl, h2, g2⟩, by simp [g3], ?_⟩
      obtain ⟨ad, rfl⟩ := hp
      have h1 := h1 s.w fun _ _ => rfl
      simp only [Instr.loadAt, Instr.sureAddr, Sem.run_bind, Sem.run_pure, Result.andThen_ok] at h1
      have hgd : a.tmps.getD c undef = .pointer (some ad) := by simp [hu]
      have hasA : (asAddr (.pointer (some ad))).run P s.w = .ok ad s.w := by simp [asAddr]
      rw [List.mapM_cons]
      simp only [Sem.run_bind, Sem.run_pure, Result.andThen_ok, hgd, hasA, h1, g4, resOf]
    · exact h.elim
theorem undefs_eq : ∀ n, undefs n = List.replicate n AV.undef
  | 0 => rfl
  | n + 1 => by simp [undefs, undefs_eq n, List.replicate_succ]
omit hG hm in
theorem ret_sound {fn : Func} {s : Sit} {st : St} {a : Act} (hs : SRel s st a) {k : Nat} (hk : k ≤ s.base.length) {K : AV → Heap → Prop} {ex : Ex} (h : eRet T k fn.results.toList K ex st) :
    ∃ s' v av h', (results fn a.tmps).run P s.w = .ok v s.w ∧ s'.w = s.w ∧ Ev s s' ∧ Kp k s s' ∧ HRel s' h' ∧ VRel s' av v ∧ K av h' := by
  unfold eRet at h
  split at h
  · exact h.elim
  · obtain ⟨vs, us, h1, h2, h3, h4⟩ := res_sound hT hs _ _ h
    have hrun : (results fn a.tmps).run P s.w = .ok (if h : us.toArray.size = 1 then us.toArray[0] else .tuple us.toArray) s.w := by
      have e : results fn a.tmps = (do
          let vs ← fn.results.mapM (resOf a)
          pure (if h : vs.size = 1 then vs[0] else .tuple vs)) := rfl
      rw [e, ← Array.toArray_toList (xs := fn.results), List.mapM_toArray]
      simp only [map_eq_pure_bind, Sem.run_bind, h4, Result.andThen_ok, Sem.run_pure]
    have hv : VRel s (one vs) (if h : us.toArray.size = 1 then us.toArray[0] else .tuple us.toArray) := by
      match vs, us, h2 with
      | [], us, h2 =>
        simp only [VRels] at h2
        subst h2
        simp [one, VRel, VRels]
      | [v], us, h2 =>
        simp only [VRels] at h2
        obtain ⟨u, r, rfl, h2, rfl⟩ := h2
        simpa [one] using h2
      | v :: v' :: l, us, h2 =>
        have hl := h2.length
        simp at hl
        rw [dif_neg (by simp; omega)]
        simp only [one, VRel]
        exact ⟨_, rfl, by simpa using h2⟩
    have hg := (refsV_grows (iota k 0) (one vs)).trans (reach_grows st.h (len st.h) 0 (refsV (iota k 0) (one vs)))
    obtain ⟨g1, g2⟩ := gc_ok hs.h (hg.2 (iota_nodup k 0))
    have hpre := locBase_keep hk hg.1
    refine ⟨⟨s.w, locBase s (reach st.h (len st.h) 0 (refsV (iota k 0) (one vs))), s.own, s.hid⟩, _, _, _, hrun, rfl, ⟨Nat.le_refl _, fun _ _ _ => rfl, fun _ _ => rfl, fun _ h => .inl h, rfl, rfl, rfl⟩, ⟨?_, ?_⟩, g1, VRel.ren g2 (ren_loc (List.prefix_refl _)) _ _ hv, h1⟩
    · simp only
      obtain ⟨t, ht⟩ := hpre
      rw [← ht]
      rw [List.take_append_of_le_length (by simp; omega)]
      rw [List.take_take, Nat.min_self]
    · have h1 := hpre.length_le
      rw [List.length_take, Nat.min_eq_left hk] at h1
      exact h1
/-- what the model says of code that begins in a state -/
def SCode (P : Program) (k : Nat) (c : Code) (st : St) (Q : Ex → St → Prop) : Prop := ∀ (s : Sit) (a : Act), SRel s st a → k ≤ s.base.length → c.wp P (PostC s k Q) a s.w
/-- the round's end -/
inductive At (R : St → Prop) (st : St) : Prop | mk : R st → At R st
/-- where code is cut: it goes on from a state, or ends -/
def toQ (st1 : St) (Q : Ex → St → Prop) : Ex → St → Prop
  | .normal, st => At (fun st => st = st1 ∨ (wvs st.t st1.t ∧ whs st.h st1.h)) st
  | .exit i, st => Q (.exit i) st
  | .ret, st => Q .ret st
theorem SCode.of_E {k : Nat} {c : Code} (hok : codeOk c = true) {st : St} {Q : Ex → St → Prop} (h : eCode T G k c st Q) : SCode P k c st Q :=
  fun s a hs hk => code_sound hT hG hm c hok st s a Q h hs hk
omit hT hG hm in
theorem SCode.seq {k : Nat} {x y : Code} {st st1 : St} {Q : Ex → St → Prop} (h1 : SCode P k x st (toQ st1 Q)) (h2 : SCode P k y st1 Q) : SCode P k (x.seq y) st Q := by
  intro s a hs hk
  refine wp_seq (wp_mono (h1 s a hs hk) ?_)
  rintro e a' w' ⟨ex, rfl, s', st', f1, f2, f3, rfl, f4⟩
  cases ex with
  | normal =>
    cases f4 with
    | mk g =>
      refine wp_mono (h2 s' a' ?_ f2.le) fun e a w h => h.back f1 f2
      rcases g with rfl | g
      · exact f3
      · exact ⟨wh_ok f3.h g.2, wvs_rel _ _ _ g.1 f3.t, f3.d⟩
  | exit i => exact ⟨.exit i, rfl, s', st', f1, f2, f3, rfl, f4⟩
  | ret => exact ⟨.ret, rfl, s', st', f1, f2, f3, rfl, f4⟩
omit hT hG hm in
theorem SCode.weak {k : Nat} {c : Code} {st st1 : St} {Q : Ex → St → Prop} (h1 : wvs st.t st1.t) (h2 : whs st.h st1.h) (h : SCode P k c st1 Q) : SCode P k c st Q :=
  fun s a hs hk => h s a ⟨wh_ok hs.h h2, wvs_rel _ _ _ h1 hs.t, hs.d⟩ hk
/-- A contract that the evaluator confirms is kept. -/
theorem sound_of_S {f : FuncId} {fn : Func} {c : Code} (hf : P.funcs[f]? = some fn) (hb : fn.body = some c) {C : Con} (hC : ∀ args h K, C args h K → SCode P (len h) c ⟨args ++ undefs (fn.ntmps - len args), h⟩ (eRet T (len h) fn.results.toList K)) : Sound P f C := by
  intro s h args vals K hh hv hc
  have he := hC args h K hc
  rw [len_eq] at he
  have hlen := hv.length
  have hs : SRel s ⟨args ++ undefs (fn.ntmps - len args), h⟩ { tmps := vals.toArray ++ Array.replicate (fn.ntmps - vals.toArray.size) undef, defers := [] } := by
    refine ⟨hh, ?_, rfl⟩
    rw [len_eq, undefs_eq hT hG hm]
    simp only [Array.toList_append, List.size_toArray, hlen, Array.toList_replicate]
    refine hv.append (VRels.mk (by simp) fun i x hx => ?_)
    rw [nth_eq, List.getElem?_replicate] at hx
    split at hx
    · simp at hx; subst hx
      exact ⟨undef, by simp [*], by simp [VRel]⟩
    · cases hx
  have hk : h.length ≤ s.base.length := by rw [hh.len]; exact Nat.le_refl _
  refine calls_of_wp hf hb (wp_mono (he s _ hs hk) ?_)
  rintro e a' w' ⟨ex, rfl, s', st', f1, f2, f3, rfl, f4⟩
  have hret := ret_sound hT f3 f2.le f4
  obtain ⟨s2, v, av, h', r1, r2, r3, r4, r5, r6, r7⟩ := hret
  have hpre : s.base <+: s2.base := by
    have := (f2.trans r4).take
    have e : s.base.take h.length = s.base := List.take_of_length_le (by rw [hh.len]; exact Nat.le_refl _)
    rw [e] at this
    exact ⟨s2.base.drop h.length, by rw [← this, List.take_append_drop]⟩
  have fin : ∃ v, (results fn a'.tmps).run P s'.w = .ok v s'.w ∧ ∃ s2 v' av h', Ending.returned v = .returned v' ∧ s2.w = s'.w ∧ Ev s s2 ∧ s.base <+: s2.base ∧ HRel s2 h' ∧ VRel s2 av v' ∧ K av h' :=
    ⟨v, r1, s2, v, av, h', rfl, r2, f1.trans r3, hpre, r5, r6, r7⟩
  cases ex with
  | normal => exact ⟨f3.d, fin⟩
  | ret => exact ⟨f3.d, fin⟩
  | exit i => exact f4.elim
theorem sound_of_E {f : FuncId} {fn : Func} {c : Code} (hf : P.funcs[f]? = some fn) (hb : fn.body = some c) (hok : codeOk c = true) {C : Con} (hC : ∀ args h K, C args h K → eFunc T G c fn.ntmps fn.results.toList args h K) : Sound P f C :=
  sound_of_S hT hG hm hf hb fun args h K hc => SCode.of_E hT hG hm hok (hC args h K hc)
end
end Go.Sy
end

section
/- Checks that the kernel reckons: the type table, a function's body. -/
namespace Go.Sy
set_option linter.unusedSimpArgs false
set_option linter.unusedVariables false
set_option linter.unusedSectionVars false

def zChk : AV → Value → Bool
  | .int k (.l n), .int k' m => kEq k k' && n == m
  | .bool (.l b), .bool c => b == c
  | .nilp, .pointer none => true
  | .nils, .slice none 0 0 => true
  | .nilf, .nilFunc => true
  | .undef, .string _ => true
  | _, _ => false
def zsChk : List AV → List Value → Bool
  | [], [] => true
  | a :: l, v :: m => zChk a v && zsChk l m
  | _, _ => false
theorem zChk_rel {a : AV} {v : Value} (h : zChk a v = true) : ZRel a v := by
  unfold zChk at h
  split at h
  · simp only [Bool.and_eq_true, beq_iff_eq] at h
    obtain ⟨h1, rfl⟩ := h
    obtain rfl := kEq_eq h1
    exact ⟨rfl, fun s => by simp [VRel, IX.v]⟩
  · simp only [beq_iff_eq] at h
    subst h
    exact ⟨rfl, fun s => by simp [VRel, BX.v]⟩
  · exact ⟨rfl, fun s => by simp [VRel]⟩
  · exact ⟨rfl, fun s => by simp [VRel]⟩
  · exact ⟨rfl, fun s => by simp [VRel]⟩
  · exact ⟨rfl, fun s => by simp [VRel]⟩
  · cases h
theorem zsChk_rel : ∀ {l : List AV} {m : List Value}, zsChk l m = true → ZRels l m
  | [], [], _ => by simp [ZRels]
  | a :: l, v :: m, h => by
    simp only [zsChk, Bool.and_eq_true] at h
    simp only [ZRels]
    exact ⟨v, m, rfl, zChk_rel h.1, zsChk_rel h.2⟩
  | [], _ :: _, h => by cases h
  | _ :: _, [], h => by cases h
def fsChk (P : Program) : List (Nat × Nat) → List Field → Bool
  | [], [] => true
  | p :: l, f :: m => p.1 == f.offset && p.2 == f.type && (P.info? f.type).isSome && fsChk P l m
  | _, _ => false
theorem fsChk_spec {P : Program} : ∀ {l : List (Nat × Nat)} {m : List Field}, fsChk P l m = true → m.map (fun f => (f.offset, f.type)) = l ∧ ∀ f ∈ m, (P.info? f.type).isSome = true
  | [], [], _ => by simp
  | p :: l, f :: m, h => by
    simp only [fsChk, Bool.and_eq_true, beq_iff_eq] at h
    obtain ⟨⟨⟨h1, h2⟩, h3⟩, h4⟩ := h
    obtain ⟨h5, h6⟩ := fsChk_spec h4
    refine ⟨by simp [h5, ← h1, ← h2], fun g hg => ?_⟩
    rcases List.mem_cons.1 hg with rfl | hg
    · exact h3
    · exact h6 g hg
  | [], _ :: _, h => by cases h
  | _ :: _, [], h => by cases h
def kChk (P : Program) : TK → TypeDesc → Bool
  | .int k, .int k' => kEq k k'
  | .bool, .bool => true
  | .slice e, .slice e' => e == e'
  | .array n e, .array n' e' => n == n' && e == e'
  | .struct fs, .struct fields => fsChk P fs fields.toList
  | .ptr e, .pointer e' => e == e'
  | .func, .func .. => true
  | .str, .string => true
  | _, _ => false
theorem kChk_ok {P : Program} {k : TK} {d : TypeDesc} (h : kChk P k d = true) : KOk P k d := by
  unfold kChk at h
  split at h
  · obtain rfl := kEq_eq h; rfl
  · rfl
  · simp only [beq_iff_eq] at h; subst h; rfl
  · simp only [Bool.and_eq_true, beq_iff_eq] at h; obtain ⟨rfl, rfl⟩ := h; rfl
  · obtain ⟨h1, h2⟩ := fsChk_spec h; exact ⟨_, rfl, h1, h2⟩
  · simp only [beq_iff_eq] at h; subst h; rfl
  · exact ⟨_, _, _, rfl⟩
  · rfl
  · cases h
def isAggV : Value → Bool | .agg _ => true | _ => false
def tdChk (P : Program) (t : Nat) (d : TD) : Bool :=
  match P.info? t with
  | some i => i.size == d.size && i.bytes == d.bytes && (match i.zero with | some z => z.cells.size == d.size && zsChk d.zero z.cells.toList && isAggV z == d.isAgg | none => false) && (match P.underlying t with | some desc => kChk P d.k desc | none => false)
  | none => false
theorem tdChk_ok {P : Program} {t : Nat} {d : TD} (h : tdChk P t d = true) : TOk P t d := by
  unfold tdChk at h
  split at h
  · rename_i i hi
    simp only [Bool.and_eq_true, beq_iff_eq] at h
    obtain ⟨⟨⟨h1, h2⟩, h3⟩, h4⟩ := h
    split at h3
    · rename_i z hz
      simp only [Bool.and_eq_true, beq_iff_eq] at h3
      obtain ⟨⟨h5, h6⟩, h7⟩ := h3
      split at h4
      · rename_i desc hd
        refine ⟨⟨i, z, hi, h1, h2, hz, h5, zsChk_rel h6, fun h => ?_, fun h => ?_⟩, desc, hd, kChk_ok h4⟩
        · rw [h] at h7
          cases z <;> first | rfl | cases h7
        · rw [h] at h7
          cases z <;> first | rfl | cases h7
      · cases h4
    · cases h3
  · cases h
def tabChk (P : Program) : List (Nat × TD) → Bool
  | [] => true
  | p :: l => tdChk P p.1 p.2 && tabChk P l
theorem tabChk_ok {P : Program} : ∀ {l : List (Nat × TD)}, tabChk P l = true → TabOk P (tiL l)
  | [], _, t, d, h => by cases h
  | p :: l, hc, t, d, h => by
    simp only [tabChk, Bool.and_eq_true] at hc
    simp only [tiL] at h
    split at h
    · rename_i he
      simp at h
      subst h
      rw [← Nat.eq_of_beq_eq_true he]
      exact tdChk_ok hc.1
    · exact tabChk_ok hc.2 t d h
/-- what the kernel is asked of a function's row -/
def fnChk (P : Program) (f : FuncId) (body : Code) (nt : Nat) (rs : List ResultVar) : Prop := ∃ fn, P.funcs[f]? = some fn ∧ fn.body = some body ∧ fn.ntmps = nt ∧ fn.results.toList = rs ∧ (fn.name == "runtime.NumGoroutine") = false
theorem fnChk.callable {P : Program} {f : FuncId} {body : Code} {nt : Nat} {rs : List ResultVar} (h : fnChk P f body nt rs) : Callable P f := by
  obtain ⟨fn, h1, h2, h3, h4, h5⟩ := h
  exact ⟨fn, h1, h5, by rw [h2]; rfl⟩
theorem fnChk.sound {P : Program} {T : Tab} (hT : TabOk P T) {G : Env} (hG : EnvOk P G) (hm : P.follows .mixedOrders = true) {f : FuncId} {body : Code} {nt : Nat} {rs : List ResultVar} (h : fnChk P f body nt rs) (hok : codeOk body = true) {C : Con}
    (hC : ∀ args h K, C args h K → eFunc T G body nt rs args h K) : Sound P f C := by
  obtain ⟨fn, h1, h2, rfl, rfl, h5⟩ := h
  exact sound_of_E hT hG hm h1 h2 hok hC
theorem fnChk.soundS {P : Program} {T : Tab} (hT : TabOk P T) {G : Env} (hG : EnvOk P G) (hm : P.follows .mixedOrders = true) {f : FuncId} {body : Code} {nt : Nat} {rs : List ResultVar} (h : fnChk P f body nt rs) {C : Con}
    (hC : ∀ args h K, C args h K → SCode P (len h) body ⟨args ++ undefs (nt - len args), h⟩ (eRet T (len h) rs K)) : Sound P f C := by
  obtain ⟨fn, h1, h2, rfl, rfl, h5⟩ := h
  exact sound_of_S hT hG hm h1 h2 hC
theorem envOk_nil {P : Program} : EnvOk P (env []) := fun f C h => by cases h
theorem envOk_cons {P : Program} {l : List (Nat × Con)} (hl : EnvOk P (env l)) {f : Nat} {C : Con} (hS : Sound P f C) (hc : Callable P f) : EnvOk P (env ((f, C) :: l)) := fun g D h => by
  simp only [env] at h
  split at h
  · rename_i he
    simp at h
    subst h
    rw [← Nat.eq_of_beq_eq_true he]
    exact ⟨hS, hc⟩
  · exact hl g D h
end Go.Sy
end

section
/- The types of the translation that the proofs reach: sizes, zero values, shapes. Written by a program of this session's own (gentab.py). -/
namespace Go.Proofs.YtlgmbpnlakjefaaDoor
open Go.Sy
def tabL : List (Nat × TD) := [
  (1, ⟨.func, 1, 8, [.nilf], none⟩),
  (2, ⟨(.int .i64), 1, 8, [.int .i64 (.l 0)], some [.int .i64]⟩),
  (3, ⟨(.int .i64), 1, 8, [.int .i64 (.l 0)], some [.int .i64]⟩),
  (4, ⟨.bool, 1, 1, [.bool (.l false)], some [.bool]⟩),
  (5, ⟨(.int .u8), 1, 1, [.int .u8 (.l 0)], some [.int .u8]⟩),
  (6, ⟨(.int .u8), 1, 1, [.int .u8 (.l 0)], some [.int .u8]⟩),
  (7, ⟨(.struct [(0, 2), (1, 3), (2, 4), (3, 6)]), 4, 24, [.int .i64 (.l 0), .int .i64 (.l 0), .bool (.l false), .int .u8 (.l 0)], some [.int .i64, .int .i64, .bool, .int .u8]⟩),
  (8, ⟨(.struct [(0, 2), (1, 3), (2, 4), (3, 6)]), 4, 24, [.int .i64 (.l 0), .int .i64 (.l 0), .bool (.l false), .int .u8 (.l 0)], some [.int .i64, .int .i64, .bool, .int .u8]⟩),
  (9, ⟨.str, 1, 16, [.undef], none⟩),
  (10, ⟨.str, 1, 16, [.undef], none⟩),
  (11, ⟨.str, 1, 16, [.undef], none⟩),
  (12, ⟨(.int .u64), 1, 8, [.int .u64 (.l 0)], some [.int .u64]⟩),
  (15, ⟨(.ptr 121), 1, 8, [.nilp], none⟩),
  (16, ⟨(.ptr 124), 1, 8, [.nilp], none⟩),
  (17, ⟨(.ptr 133), 1, 8, [.nilp], none⟩),
  (18, ⟨(.struct [(0, 17)]), 1, 8, [.nilp], none⟩),
  (19, ⟨(.struct [(0, 17)]), 1, 8, [.nilp], none⟩),
  (21, ⟨(.int .i32), 1, 4, [.int .i32 (.l 0)], some [.int .i32]⟩),
  (22, ⟨(.slice 24), 1, 24, [.nils], none⟩),
  (23, ⟨(.slice 32), 1, 24, [.nils], none⟩),
  (24, ⟨(.int .u16), 1, 2, [.int .u16 (.l 0)], some [.int .u16]⟩),
  (25, ⟨(.struct [(0, 3), (1, 3), (2, 24)]), 3, 24, [.int .i64 (.l 0), .int .i64 (.l 0), .int .u16 (.l 0)], some [.int .i64, .int .i64, .int .u16]⟩),
  (26, ⟨(.struct [(0, 3), (1, 3), (2, 24)]), 3, 24, [.int .i64 (.l 0), .int .i64 (.l 0), .int .u16 (.l 0)], some [.int .i64, .int .i64, .int .u16]⟩),
  (27, ⟨.func, 1, 8, [.nilf], none⟩),
  (28, ⟨.func, 1, 8, [.nilf], none⟩),
  (29, ⟨.func, 1, 8, [.nilf], none⟩),
  (30, ⟨.func, 1, 8, [.nilf], none⟩),
  (31, ⟨.func, 1, 8, [.nilf], none⟩),
  (32, ⟨(.slice 5), 1, 24, [.nils], none⟩),
  (33, ⟨.func, 1, 8, [.nilf], none⟩),
  (34, ⟨.func, 1, 8, [.nilf], none⟩),
  (36, ⟨.func, 1, 8, [.nilf], none⟩),
  (37, ⟨(.int .i64), 1, 8, [.int .i64 (.l 0)], some [.int .i64]⟩),
  (39, ⟨.func, 1, 8, [.nilf], none⟩),
  (40, ⟨(.int .u32), 1, 4, [.int .u32 (.l 0)], some [.int .u32]⟩),
  (41, ⟨(.struct [(0, 5), (1, 22), (2, 40)]), 3, 40, [.int .u8 (.l 0), .nils, .int .u32 (.l 0)], none⟩),
  (42, ⟨(.struct [(0, 5), (1, 22), (2, 40)]), 3, 40, [.int .u8 (.l 0), .nils, .int .u32 (.l 0)], none⟩),
  (44, ⟨.func, 1, 8, [.nilf], none⟩),
  (46, ⟨.func, 1, 8, [.nilf], none⟩),
  (47, ⟨.func, 1, 8, [.nilf], none⟩),
  (48, ⟨.func, 1, 8, [.nilf], none⟩),
  (50, ⟨.func, 1, 8, [.nilf], none⟩),
  (51, ⟨.func, 1, 8, [.nilf], none⟩),
  (53, ⟨.func, 1, 8, [.nilf], none⟩),
  (54, ⟨(.array 15 5), 15, 15, [.int .u8 (.l 0), .int .u8 (.l 0), .int .u8 (.l 0), .int .u8 (.l 0), .int .u8 (.l 0), .int .u8 (.l 0), .int .u8 (.l 0), .int .u8 (.l 0), .int .u8 (.l 0), .int .u8 (.l 0), .int .u8 (.l 0), .int .u8 (.l 0), .int .u8 (.l 0), .int .u8 (.l 0), .int .u8 (.l 0)], some [.int .u8]⟩),
  (55, ⟨(.array 31 40), 31, 124, [.int .u32 (.l 0), .int .u32 (.l 0), .int .u32 (.l 0), .int .u32 (.l 0), .int .u32 (.l 0), .int .u32 (.l 0), .int .u32 (.l 0), .int .u32 (.l 0), .int .u32 (.l 0), .int .u32 (.l 0), .int .u32 (.l 0), .int .u32 (.l 0), .int .u32 (.l 0), .int .u32 (.l 0), .int .u32 (.l 0), .int .u32 (.l 0), .int .u32 (.l 0), .int .u32 (.l 0), .int .u32 (.l 0), .int .u32 (.l 0), .int .u32 (.l 0), .int .u32 (.l 0), .int .u32 (.l 0), .int .u32 (.l 0), .int .u32 (.l 0), .int .u32 (.l 0), .int .u32 (.l 0), .int .u32 (.l 0), .int .u32 (.l 0), .int .u32 (.l 0), .int .u32 (.l 0)], some [.int .u32]⟩),
  (56, ⟨(.struct [(0, 54), (15, 54), (30, 54), (45, 5), (46, 5), (47, 55)]), 78, 172, [.int .u8 (.l 0), .int .u8 (.l 0), .int .u8 (.l 0), .int .u8 (.l 0), .int .u8 (.l 0), .int .u8 (.l 0), .int .u8 (.l 0), .int .u8 (.l 0), .int .u8 (.l 0), .int .u8 (.l 0), .int .u8 (.l 0), .int .u8 (.l 0), .int .u8 (.l 0), .int .u8 (.l 0), .int .u8 (.l 0), .int .u8 (.l 0), .int .u8 (.l 0), .int .u8 (.l 0), .int .u8 (.l 0), .int .u8 (.l 0), .int .u8 (.l 0), .int .u8 (.l 0), .int .u8 (.l 0), .int .u8 (.l 0), .int .u8 (.l 0), .int .u8 (.l 0), .int .u8 (.l 0), .int .u8 (.l 0), .int .u8 (.l 0), .int .u8 (.l 0), .int .u8 (.l 0), .int .u8 (.l 0), .int .u8 (.l 0), .int .u8 (.l 0), .int .u8 (.l 0), .int .u8 (.l 0), .int .u8 (.l 0), .int .u8 (.l 0), .int .u8 (.l 0), .int .u8 (.l 0), .int .u8 (.l 0), .int .u8 (.l 0), .int .u8 (.l 0), .int .u8 (.l 0), .int .u8 (.l 0), .int .u8 (.l 0), .int .u8 (.l 0), .int .u32 (.l 0), .int .u32 (.l 0), .int .u32 (.l 0), .int .u32 (.l 0), .int .u32 (.l 0), .int .u32 (.l 0), .int .u32 (.l 0), .int .u32 (.l 0), .int .u32 (.l 0), .int .u32 (.l 0), .int .u32 (.l 0), .int .u32 (.l 0), .int .u32 (.l 0), .int .u32 (.l 0), .int .u32 (.l 0), .int .u32 (.l 0), .int .u32 (.l 0), .int .u32 (.l 0), .int .u32 (.l 0), .int .u32 (.l 0), .int .u32 (.l 0), .int .u32 (.l 0), .int .u32 (.l 0), .int .u32 (.l 0), .int .u32 (.l 0), .int .u32 (.l 0), .int .u32 (.l 0), .int .u32 (.l 0), .int .u32 (.l 0), .int .u32 (.l 0), .int .u32 (.l 0)], some [.int .u8, .int .u8, .int .u8, .int .u8, .int .u8, .int .u8, .int .u8, .int .u8, .int .u8, .int .u8, .int .u8, .int .u8, .int .u8, .int .u8, .int .u8, .int .u8, .int .u8, .int .u8, .int .u8, .int .u8, .int .u8, .int .u8, .int .u8, .int .u8, .int .u8, .int .u8, .int .u8, .int .u8, .int .u8, .int .u8, .int .u8, .int .u8, .int .u8, .int .u8, .int .u8, .int .u8, .int .u8, .int .u8, .int .u8, .int .u8, .int .u8, .int .u8, .int .u8, .int .u8, .int .u8, .int .u8, .int .u8, .int .u32, .int .u32, .int .u32, .int .u32, .int .u32, .int .u32, .int .u32, .int .u32, .int .u32, .int .u32, .int .u32, .int .u32, .int .u32, .int .u32, .int .u32, .int .u32, .int .u32, .int .u32, .int .u32, .int .u32, .int .u32, .int .u32, .int .u32, .int .u32, .int .u32, .int .u32, .int .u32, .int .u32, .int .u32, .int .u32, .int .u32]⟩),
  (57, ⟨(.struct [(0, 54), (15, 54), (30, 54), (45, 5), (46, 5), (47, 55)]), 78, 172, [.int .u8 (.l 0), .int .u8 (.l 0), .int .u8 (.l 0), .int .u8 (.l 0), .int .u8 (.l 0), .int .u8 (.l 0), .int .u8 (.l 0), .int .u8 (.l 0), .int .u8 (.l 0), .int .u8 (.l 0), .int .u8 (.l 0), .int .u8 (.l 0), .int .u8 (.l 0), .int .u8 (.l 0), .int .u8 (.l 0), .int .u8 (.l 0), .int .u8 (.l 0), .int .u8 (.l 0), .int .u8 (.l 0), .int .u8 (.l 0), .int .u8 (.l 0), .int .u8 (.l 0), .int .u8 (.l 0), .int .u8 (.l 0), .int .u8 (.l 0), .int .u8 (.l 0), .int .u8 (.l 0), .int .u8 (.l 0), .int .u8 (.l 0), .int .u8 (.l 0), .int .u8 (.l 0), .int .u8 (.l 0), .int .u8 (.l 0), .int .u8 (.l 0), .int .u8 (.l 0), .int .u8 (.l 0), .int .u8 (.l 0), .int .u8 (.l 0), .int .u8 (.l 0), .int .u8 (.l 0), .int .u8 (.l 0), .int .u8 (.l 0), .int .u8 (.l 0), .int .u8 (.l 0), .int .u8 (.l 0), .int .u8 (.l 0), .int .u8 (.l 0), .int .u32 (.l 0), .int .u32 (.l 0), .int .u32 (.l 0), .int .u32 (.l 0), .int .u32 (.l 0), .int .u32 (.l 0), .int .u32 (.l 0), .int .u32 (.l 0), .int .u32 (.l 0), .int .u32 (.l 0), .int .u32 (.l 0), .int .u32 (.l 0), .int .u32 (.l 0), .int .u32 (.l 0), .int .u32 (.l 0), .int .u32 (.l 0), .int .u32 (.l 0), .int .u32 (.l 0), .int .u32 (.l 0), .int .u32 (.l 0), .int .u32 (.l 0), .int .u32 (.l 0), .int .u32 (.l 0), .int .u32 (.l 0), .int .u32 (.l 0), .int .u32 (.l 0), .int .u32 (.l 0), .int .u32 (.l 0), .int .u32 (.l 0), .int .u32 (.l 0), .int .u32 (.l 0)], some [.int .u8, .int .u8, .int .u8, .int .u8, .int .u8, .int .u8, .int .u8, .int .u8, .int .u8, .int .u8, .int .u8, .int .u8, .int .u8, .int .u8, .int .u8, .int .u8, .int .u8, .int .u8, .int .u8, .int .u8, .int .u8, .int .u8, .int .u8, .int .u8, .int .u8, .int .u8, .int .u8, .int .u8, .int .u8, .int .u8, .int .u8, .int .u8, .int .u8, .int .u8, .int .u8, .int .u8, .int .u8, .int .u8, .int .u8, .int .u8, .int .u8, .int .u8, .int .u8, .int .u8, .int .u8, .int .u8, .int .u8, .int .u32, .int .u32, .int .u32, .int .u32, .int .u32, .int .u32, .int .u32, .int .u32, .int .u32, .int .u32, .int .u32, .int .u32, .int .u32, .int .u32, .int .u32, .int .u32, .int .u32, .int .u32, .int .u32, .int .u32, .int .u32, .int .u32, .int .u32, .int .u32, .int .u32, .int .u32, .int .u32, .int .u32, .int .u32, .int .u32, .int .u32]⟩),
  (58, ⟨.func, 1, 8, [.nilf], none⟩),
  (59, ⟨.func, 1, 8, [.nilf], none⟩),
  (60, ⟨.func, 1, 8, [.nilf], none⟩),
  (61, ⟨(.slice 3), 1, 24, [.nils], none⟩),
  (62, ⟨(.struct [(0, 24), (1, 3), (2, 3)]), 3, 24, [.int .u16 (.l 0), .int .i64 (.l 0), .int .i64 (.l 0)], some [.int .u16, .int .i64, .int .i64]⟩),
  (63, ⟨(.struct [(0, 24), (1, 3), (2, 3)]), 3, 24, [.int .u16 (.l 0), .int .i64 (.l 0), .int .i64 (.l 0)], some [.int .u16, .int .i64, .int .i64]⟩),
  (65, ⟨.func, 1, 8, [.nilf], none⟩),
  (66, ⟨.func, 1, 8, [.nilf], none⟩),
  (67, ⟨.func, 1, 8, [.nilf], none⟩),
  (68, ⟨.func, 1, 8, [.nilf], none⟩),
  (70, ⟨.func, 1, 8, [.nilf], none⟩),
  (71, ⟨.func, 1, 8, [.nilf], none⟩),
  (73, ⟨.func, 1, 8, [.nilf], none⟩),
  (74, ⟨.func, 1, 8, [.nilf], none⟩),
  (75, ⟨.func, 1, 8, [.nilf], none⟩),
  (76, ⟨.func, 1, 8, [.nilf], none⟩),
  (77, ⟨(.struct [(0, 54), (15, 54), (30, 5), (31, 55)]), 62, 156, [.int .u8 (.l 0), .int .u8 (.l 0), .int .u8 (.l 0), .int .u8 (.l 0), .int .u8 (.l 0), .int .u8 (.l 0), .int .u8 (.l 0), .int .u8 (.l 0), .int .u8 (.l 0), .int .u8 (.l 0), .int .u8 (.l 0), .int .u8 (.l 0), .int .u8 (.l 0), .int .u8 (.l 0), .int .u8 (.l 0), .int .u8 (.l 0), .int .u8 (.l 0), .int .u8 (.l 0), .int .u8 (.l 0), .int .u8 (.l 0), .int .u8 (.l 0), .int .u8 (.l 0), .int .u8 (.l 0), .int .u8 (.l 0), .int .u8 (.l 0), .int .u8 (.l 0), .int .u8 (.l 0), .int .u8 (.l 0), .int .u8 (.l 0), .int .u8 (.l 0), .int .u8 (.l 0), .int .u32 (.l 0), .int .u32 (.l 0), .int .u32 (.l 0), .int .u32 (.l 0), .int .u32 (.l 0), .int .u32 (.l 0), .int .u32 (.l 0), .int .u32 (.l 0), .int .u32 (.l 0), .int .u32 (.l 0), .int .u32 (.l 0), .int .u32 (.l 0), .int .u32 (.l 0), .int .u32 (.l 0), .int .u32 (.l 0), .int .u32 (.l 0), .int .u32 (.l 0), .int .u32 (.l 0), .int .u32 (.l 0), .int .u32 (.l 0), .int .u32 (.l 0), .int .u32 (.l 0), .int .u32 (.l 0), .int .u32 (.l 0), .int .u32 (.l 0), .int .u32 (.l 0), .int .u32 (.l 0), .int .u32 (.l 0), .int .u32 (.l 0), .int .u32 (.l 0), .int .u32 (.l 0)], some [.int .u8, .int .u8, .int .u8, .int .u8, .int .u8, .int .u8, .int .u8, .int .u8, .int .u8, .int .u8, .int .u8, .int .u8, .int .u8, .int .u8, .int .u8, .int .u8, .int .u8, .int .u8, .int .u8, .int .u8, .int .u8, .int .u8, .int .u8, .int .u8, .int .u8, .int .u8, .int .u8, .int .u8, .int .u8, .int .u8, .int .u8, .int .u32, .int .u32, .int .u32, .int .u32, .int .u32, .int .u32, .int .u32, .int .u32, .int .u32, .int .u32, .int .u32, .int .u32, .int .u32, .int .u32, .int .u32, .int .u32, .int .u32, .int .u32, .int .u32, .int .u32, .int .u32, .int .u32, .int .u32, .int .u32, .int .u32, .int .u32, .int .u32, .int .u32, .int .u32, .int .u32, .int .u32]⟩),
  (78, ⟨(.struct [(0, 54), (15, 54), (30, 5), (31, 55)]), 62, 156, [.int .u8 (.l 0), .int .u8 (.l 0), .int .u8 (.l 0), .int .u8 (.l 0), .int .u8 (.l 0), .int .u8 (.l 0), .int .u8 (.l 0), .int .u8 (.l 0), .int .u8 (.l 0), .int .u8 (.l 0), .int .u8 (.l 0), .int .u8 (.l 0), .int .u8 (.l 0), .int .u8 (.l 0), .int .u8 (.l 0), .int .u8 (.l 0), .int .u8 (.l 0), .int .u8 (.l 0), .int .u8 (.l 0), .int .u8 (.l 0), .int .u8 (.l 0), .int .u8 (.l 0), .int .u8 (.l 0), .int .u8 (.l 0), .int .u8 (.l 0), .int .u8 (.l 0), .int .u8 (.l 0), .int .u8 (.l 0), .int .u8 (.l 0), .int .u8 (.l 0), .int .u8 (.l 0), .int .u32 (.l 0), .int .u32 (.l 0), .int .u32 (.l 0), .int .u32 (.l 0), .int .u32 (.l 0), .int .u32 (.l 0), .int .u32 (.l 0), .int .u32 (.l 0), .int .u32 (.l 0), .int .u32 (.l 0), .int .u32 (.l 0), .int .u32 (.l 0), .int .u32 (.l 0), .int .u32 (.l 0), .int .u32 (.l 0), .int .u32 (.l 0), .int .u32 (.l 0), .int .u32 (.l 0), .int .u32 (.l 0), .int .u32 (.l 0), .int .u32 (.l 0), .int .u32 (.l 0), .int .u32 (.l 0), .int .u32 (.l 0), .int .u32 (.l 0), .int .u32 (.l 0), .int .u32 (.l 0), .int .u32 (.l 0), .int .u32 (.l 0), .int .u32 (.l 0), .int .u32 (.l 0)], some [.int .u8, .int .u8, .int .u8, .int .u8, .int .u8, .int .u8, .int .u8, .int .u8, .int .u8, .int .u8, .int .u8, .int .u8, .int .u8, .int .u8, .int .u8, .int .u8, .int .u8, .int .u8, .int .u8, .int .u8, .int .u8, .int .u8, .int .u8, .int .u8, .int .u8, .int .u8, .int .u8, .int .u8, .int .u8, .int .u8, .int .u8, .int .u32, .int .u32, .int .u32, .int .u32, .int .u32, .int .u32, .int .u32, .int .u32, .int .u32, .int .u32, .int .u32, .int .u32, .int .u32, .int .u32, .int .u32, .int .u32, .int .u32, .int .u32, .int .u32, .int .u32, .int .u32, .int .u32, .int .u32, .int .u32, .int .u32, .int .u32, .int .u32, .int .u32, .int .u32, .int .u32, .int .u32]⟩),
  (80, ⟨.func, 1, 8, [.nilf], none⟩),
  (81, ⟨(.struct [(0, 54), (15, 54), (30, 5), (31, 5), (32, 4), (33, 4), (34, 4)]), 35, 35, [.int .u8 (.l 0), .int .u8 (.l 0), .int .u8 (.l 0), .int .u8 (.l 0), .int .u8 (.l 0), .int .u8 (.l 0), .int .u8 (.l 0), .int .u8 (.l 0), .int .u8 (.l 0), .int .u8 (.l 0), .int .u8 (.l 0), .int .u8 (.l 0), .int .u8 (.l 0), .int .u8 (.l 0), .int .u8 (.l 0), .int .u8 (.l 0), .int .u8 (.l 0), .int .u8 (.l 0), .int .u8 (.l 0), .int .u8 (.l 0), .int .u8 (.l 0), .int .u8 (.l 0), .int .u8 (.l 0), .int .u8 (.l 0), .int .u8 (.l 0), .int .u8 (.l 0), .int .u8 (.l 0), .int .u8 (.l 0), .int .u8 (.l 0), .int .u8 (.l 0), .int .u8 (.l 0), .int .u8 (.l 0), .bool (.l false), .bool (.l false), .bool (.l false)], some [.int .u8, .int .u8, .int .u8, .int .u8, .int .u8, .int .u8, .int .u8, .int .u8, .int .u8, .int .u8, .int .u8, .int .u8, .int .u8, .int .u8, .int .u8, .int .u8, .int .u8, .int .u8, .int .u8, .int .u8, .int .u8, .int .u8, .int .u8, .int .u8, .int .u8, .int .u8, .int .u8, .int .u8, .int .u8, .int .u8, .int .u8, .int .u8, .bool, .bool, .bool]⟩),
  (82, ⟨(.struct [(0, 54), (15, 54), (30, 5), (31, 5), (32, 4), (33, 4), (34, 4)]), 35, 35, [.int .u8 (.l 0), .int .u8 (.l 0), .int .u8 (.l 0), .int .u8 (.l 0), .int .u8 (.l 0), .int .u8 (.l 0), .int .u8 (.l 0), .int .u8 (.l 0), .int .u8 (.l 0), .int .u8 (.l 0), .int .u8 (.l 0), .int .u8 (.l 0), .int .u8 (.l 0), .int .u8 (.l 0), .int .u8 (.l 0), .int .u8 (.l 0), .int .u8 (.l 0), .int .u8 (.l 0), .int .u8 (.l 0), .int .u8 (.l 0), .int .u8 (.l 0), .int .u8 (.l 0), .int .u8 (.l 0), .int .u8 (.l 0), .int .u8 (.l 0), .int .u8 (.l 0), .int .u8 (.l 0), .int .u8 (.l 0), .int .u8 (.l 0), .int .u8 (.l 0), .int .u8 (.l 0), .int .u8 (.l 0), .bool (.l false), .bool (.l false), .bool (.l false)], some [.int .u8, .int .u8, .int .u8, .int .u8, .int .u8, .int .u8, .int .u8, .int .u8, .int .u8, .int .u8, .int .u8, .int .u8, .int .u8, .int .u8, .int .u8, .int .u8, .int .u8, .int .u8, .int .u8, .int .u8, .int .u8, .int .u8, .int .u8, .int .u8, .int .u8, .int .u8, .int .u8, .int .u8, .int .u8, .int .u8, .int .u8, .int .u8, .bool, .bool, .bool]⟩),
  (84, ⟨.func, 1, 8, [.nilf], none⟩),
  (85, ⟨(.array 4 63), 12, 96, [.int .u16 (.l 0), .int .i64 (.l 0), .int .i64 (.l 0), .int .u16 (.l 0), .int .i64 (.l 0), .int .i64 (.l 0), .int .u16 (.l 0), .int .i64 (.l 0), .int .i64 (.l 0), .int .u16 (.l 0), .int .i64 (.l 0), .int .i64 (.l 0)], some [.int .u16, .int .i64, .int .i64]⟩),
  (86, ⟨.func, 1, 8, [.nilf], none⟩),
  (87, ⟨.func, 1, 8, [.nilf], none⟩),
  (88, ⟨.func, 1, 8, [.nilf], none⟩),
  (89, ⟨(.int .u64), 1, 8, [.int .u64 (.l 0)], some [.int .u64]⟩),
  (90, ⟨(.array 2 24), 2, 4, [.int .u16 (.l 0), .int .u16 (.l 0)], some [.int .u16]⟩),
  (91, ⟨.func, 1, 8, [.nilf], none⟩),
  (92, ⟨.func, 1, 8, [.nilf], none⟩),
  (93, ⟨.func, 1, 8, [.nilf], none⟩),
  (94, ⟨.func, 1, 8, [.nilf], none⟩),
  (95, ⟨.func, 1, 8, [.nilf], none⟩),
  (96, ⟨.func, 1, 8, [.nilf], none⟩),
  (97, ⟨.func, 1, 8, [.nilf], none⟩),
  (98, ⟨.func, 1, 8, [.nilf], none⟩),
  (100, ⟨.func, 1, 8, [.nilf], none⟩),
  (101, ⟨.func, 1, 8, [.nilf], none⟩),
  (102, ⟨.func, 1, 8, [.nilf], none⟩),
  (103, ⟨.func, 1, 8, [.nilf], none⟩),
  (104, ⟨.func, 1, 8, [.nilf], none⟩),
  (105, ⟨.func, 1, 8, [.nilf], none⟩),
  (106, ⟨.func, 1, 8, [.nilf], none⟩),
  (107, ⟨.func, 1, 8, [.nilf], none⟩),
  (108, ⟨(.int .i64), 1, 8, [.int .i64 (.l 0)], some [.int .i64]⟩),
  (109, ⟨.func, 1, 8, [.nilf], none⟩),
  (110, ⟨.func, 1, 8, [.nilf], none⟩),
  (111, ⟨.func, 1, 8, [.nilf], none⟩),
  (112, ⟨(.slice 40), 1, 24, [.nils], none⟩),
  (113, ⟨.func, 1, 8, [.nilf], none⟩),
  (114, ⟨.func, 1, 8, [.nilf], none⟩),
  (115, ⟨.func, 1, 8, [.nilf], none⟩),
  (116, ⟨.func, 1, 8, [.nilf], none⟩),
  (117, ⟨.func, 1, 8, [.nilf], none⟩),
  (118, ⟨.func, 1, 8, [.nilf], none⟩),
  (119, ⟨.func, 1, 8, [.nilf], none⟩),
  (122, ⟨(.array 0 16), 0, 0, [], none⟩),
  (123, ⟨(.struct [(0, 122)]), 0, 0, [], none⟩),
  (124, ⟨(.struct [(0, 122)]), 0, 0, [], none⟩),
  (125, ⟨.func, 1, 8, [.nilf], none⟩),
  (126, ⟨(.int .u8), 1, 1, [.int .u8 (.l 0)], some [.int .u8]⟩),
  (127, ⟨(.int .u8), 1, 1, [.int .u8 (.l 0)], some [.int .u8]⟩),
  (128, ⟨.func, 1, 8, [.nilf], none⟩),
  (129, ⟨(.ptr 5), 1, 8, [.nilp], none⟩),
  (130, ⟨(.int .i32), 1, 4, [.int .i32 (.l 0)], some [.int .i32]⟩),
  (131, ⟨(.int .i32), 1, 4, [.int .i32 (.l 0)], some [.int .i32]⟩),
  (132, ⟨(.struct [(0, 12), (1, 12), (2, 40), (3, 126), (4, 5), (5, 5), (6, 127), (7, 128), (8, 129), (9, 130), (10, 131)]), 11, 48, [.int .u64 (.l 0), .int .u64 (.l 0), .int .u32 (.l 0), .int .u8 (.l 0), .int .u8 (.l 0), .int .u8 (.l 0), .int .u8 (.l 0), .nilf, .nilp, .int .i32 (.l 0), .int .i32 (.l 0)], none⟩),
  (133, ⟨(.struct [(0, 12), (1, 12), (2, 40), (3, 126), (4, 5), (5, 5), (6, 127), (7, 128), (8, 129), (9, 130), (10, 131)]), 11, 48, [.int .u64 (.l 0), .int .u64 (.l 0), .int .u32 (.l 0), .int .u8 (.l 0), .int .u8 (.l 0), .int .u8 (.l 0), .int .u8 (.l 0), .nilf, .nilp, .int .i32 (.l 0), .int .i32 (.l 0)], none⟩)]
def tab (t : Nat) : Option TD := tiL tabL t
end Go.Proofs.YtlgmbpnlakjefaaDoor
end

section
/- The seat's program: its type table is right, its functions' rows. -/
namespace Go.Proofs.YtlgmbpnlakjefaaDoor
open Go.Sy
theorem tabOk : TabOk Tryd.prog tab := tabChk_ok (by kernel_rfl)
theorem mixed : Tryd.prog.follows .mixedOrders = true := by kernel_rfl
end Go.Proofs.YtlgmbpnlakjefaaDoor
end
