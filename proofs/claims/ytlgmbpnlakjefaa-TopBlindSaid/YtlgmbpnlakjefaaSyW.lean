/- Soundness: code, loops, results, functions. -/
import Derived.Test.YtlgmbpnlakjefaaSyV
import Derived.LoopN
namespace Go.Sy
set_option linter.unusedSimpArgs false
set_option linter.unusedVariables false
set_option linter.unusedSectionVars false

/-- the first k objects stay in their places -/
structure Kp (k : Nat) (s s' : Sit) : Prop where
  take : s'.base.take k = s.base.take k
  le : k ≤ s'.base.length
theorem Kp.trans {k : Nat} {s s' s'' : Sit} (h : Kp k s s') (h' : Kp k s' s'') : Kp k s s'' := ⟨h'.take.trans h.take, h'.le⟩
theorem Kp.refl {k : Nat} {s : Sit} (h : k ≤ s.base.length) : Kp k s s := ⟨rfl, h⟩
theorem Kp.of_prefix {k : Nat} {s s' : Sit} (hk : k ≤ s.base.length) (hp : s.base <+: s'.base) : Kp k s s' := by
  obtain ⟨t, ht⟩ := hp
  refine ⟨by rw [← ht, List.take_append_of_le_length hk], by rw [← ht, List.length_append]; omega⟩
def exOf : Ex → Exit
  | .normal => .normal
  | .exit i => .exit i
  | .ret => .ret
def PostC (s : Sit) (k : Nat) (Q : Ex → St → Prop) : Exit → Act → World → Prop := fun e a w => ∃ ex, exOf ex = e ∧ ∃ s' st', Ev s s' ∧ Kp k s s' ∧ SRel s' st' a ∧ s'.w = w ∧ Q ex st'
theorem PostC.back {s s1 : Sit} {k : Nat} {Q : Ex → St → Prop} (hE : Ev s s1) (hk : Kp k s s1) {e : Exit} {a : Act} {w : World} (h : PostC s1 k Q e a w) : PostC s k Q e a w := by
  obtain ⟨ex, h1, s', st', h2, h3, h4⟩ := h
  exact ⟨ex, h1, s', st', hE.trans h2, hk.trans h3, h4⟩
theorem PostC.noPanic {s : Sit} {k : Nat} {Q : Ex → St → Prop} (c : List PanicEntry) (a : Act) (w : World) : ¬ PostC s k Q (.panic c) a w := by
  rintro ⟨ex, h, _⟩; cases ex <;> cases h
theorem PostC.noOut {s : Sit} {k : Nat} {Q : Ex → St → Prop} : ¬ LetsOut (PostC s k Q) := by
  rintro ⟨a, w, ex, h, _⟩; cases ex <;> cases h
def codeOk : Code → Bool
  | .region _ ops draw => !draw || regOk ops
  | .seq a b => codeOk a && codeOk b
  | .cond _ a b => codeOk a && codeOk b
  | .block _ a => codeOk a
  | .loop a => codeOk a
  | _ => true
theorem mask_rel {s : Sit} (keep : List Nat) : ∀ (l : List AV) (vs : List Value) (i : Nat), VRels s l vs → VRels s (maskT keep i l) vs
  | [], vs, i, h => by simpa [maskT] using h
  | a :: l, vs, i, h => by
    simp only [VRels] at h
    obtain ⟨v, r, rfl, h1, h2⟩ := h
    simp only [maskT, VRels]
    refine ⟨v, r, rfl, ?_, mask_rel keep l r (i + 1) h2⟩
    split
    · exact h1
    · simp [VRel]
theorem sK_eq {a b : IntKind} (h : sK a b) : a = b := by
  unfold sK at h
  split at h
  · exact kEq_eq ‹_›
  · cases h; assumption
theorem sS_eq {a b : List Kd} (h : sS a b) : a = b := by
  unfold sS at h
  split at h
  · exact sigEq_eq ‹_›
  · cases h; assumption
theorem sZ_eq {a b : Nat} (h : sZ a b) : a = b := by
  unfold sZ at h
  split at h
  · exact Nat.eq_of_beq_eq_true ‹_›
  · cases h; assumption
theorem sN_eq {a b : NX} (h : sN a b) : a.v = b.v := by
  unfold sN at h
  split at h
  · split at h
    · split at h
      · rename_i hb
        rw [Nat.eq_of_beq_eq_true hb]
      · cases h; assumption
    · cases h; assumption
  · cases h; assumption
theorem sF_eq {a b : Fn} (h : sF a b) : a = b := by
  unfold sF at h
  split at h
  · split at h
    · split at h
      · rename_i hb
        rw [Nat.eq_of_beq_eq_true hb]
      · cases h; assumption
    · cases h; assumption
  · cases h; assumption
theorem sB_eq {a b : Bool} (h : sB a b) : a = b := by
  cases a <;> cases b <;> first | rfl | exact h.elim
mutual
theorem wv_rel {s : Sit} : ∀ (a b : AV) (v : Value), wv a b → VRel s a v → VRel s b v
  | .undef, b, v, h, hr => by
    unfold wv at h
    split at h
    · exact hr
    · exact h.elim
  | .bool x, b, v, h, hr => by
    unfold wv at h
    split at h
    · simp [VRel]
    · obtain ⟨h⟩ := h
      simp only [VRel] at hr ⊢; rw [← h]; exact hr
    · exact h.elim
  | .int k x, b, v, h, hr => by
    unfold wv at h
    split at h
    · simp [VRel]
    · obtain ⟨hk, ⟨h⟩⟩ := h
      obtain rfl := sK_eq hk
      simp only [VRel] at hr ⊢; rw [← h]; exact hr
    · exact h.elim
  | .nilp, b, v, h, hr => by
    unfold wv at h
    split at h
    · simp [VRel]
    · exact hr
    · exact h.elim
  | .ptr o i f, b, v, h, hr => by
    unfold wv at h
    split at h
    · simp [VRel]
    · obtain ⟨ho, h1, h2⟩ := h
      have h1 := sN_eq h1
      have h2 := sN_eq h2
      obtain rfl := sZ_eq ho
      simp only [VRel] at hr ⊢; rw [← h1, ← h2]; exact hr
    · exact h.elim
  | .nils, b, v, h, hr => by
    unfold wv at h
    split at h
    · simp [VRel]
    · exact hr
    · exact h.elim
  | .sl o i f z n c x, b, v, h, hr => by
    unfold wv at h
    split at h
    · simp [VRel]
    · obtain ⟨ho, h1, h2, hz, h3, ⟨h4⟩, ⟨h5⟩, h6⟩ := h
      have h1 := sN_eq h1
      have h2 := sN_eq h2
      have h3 := sN_eq h3
      obtain rfl := sZ_eq ho
      obtain rfl := sZ_eq hz
      simp only [VRel] at hr ⊢
      obtain ⟨a, cap, e1, e2, e3, e4, e5, e6, e7⟩ := hr
      refine ⟨a, cap, by rw [← h3]; exact e1, h4, by omega, fun hx => ?_, e5, e6, by rw [← h1, ← h2]; exact e7⟩
      subst hx
      unfold sE at h6
      simp only at h6
      split at h6
      · obtain ⟨g2⟩ := h6
        rw [← g2]; exact e4 rfl
      · exact h6.elim
    · exact h.elim
  | .ro sig l, b, v, h, hr => by
    unfold wv at h
    split at h
    · simp [VRel]
    · obtain ⟨hs, ⟨h⟩⟩ := h
      obtain rfl := sS_eq hs
      simp only [VRel] at hr ⊢; rw [← h]; exact hr
    · exact h.elim
  | .nilf, b, v, h, hr => by
    unfold wv at h
    split at h
    · simp [VRel]
    · exact hr
    · exact h.elim
  | .func fn fs cs, b, v, h, hr => by
    unfold wv at h
    split at h
    · simp [VRel]
    · obtain ⟨hf, h1, h2⟩ := h
      obtain rfl := sF_eq hf
      simp only [VRel] at hr ⊢
      obtain ⟨a, b, e1, e2, e3⟩ := hr
      exact ⟨a, b, e1, wvs_rel _ _ _ h1 e2, wvs_rel _ _ _ h2 e3⟩
    · exact h.elim
  | .agg cs, b, v, h, hr => by
    unfold wv at h
    split at h
    · simp [VRel]
    · simp only [VRel] at hr ⊢
      obtain ⟨a, e1, e2⟩ := hr
      exact ⟨a, e1, wvs_rel _ _ _ h e2⟩
    · exact h.elim
  | .arr sig l, b, v, h, hr => by
    unfold wv at h
    split at h
    · simp [VRel]
    · obtain ⟨hs, ⟨h⟩⟩ := h
      obtain rfl := sS_eq hs
      simp only [VRel] at hr ⊢; rw [← h]; exact hr
    · exact h.elim
  | .tuple cs, b, v, h, hr => by
    unfold wv at h
    split at h
    · simp [VRel]
    · simp only [VRel] at hr ⊢
      obtain ⟨a, e1, e2⟩ := hr
      exact ⟨a, e1, wvs_rel _ _ _ h e2⟩
    · exact h.elim
theorem wvs_rel {s : Sit} : ∀ (l m : List AV) (vs : List Value), wvs l m → VRels s l vs → VRels s m vs
  | [], m, vs, h, hr => by
    unfold wvs at h
    split at h
    · exact hr
    · exact h.elim
  | a :: l, m, vs, h, hr => by
    unfold wvs at h
    split at h
    · obtain ⟨h1, h2⟩ := h
      simp only [VRels] at hr ⊢
      obtain ⟨v, r, rfl, e1, e2⟩ := hr
      exact ⟨v, r, rfl, wv_rel _ _ _ h1 e1, wvs_rel _ _ _ h2 e2⟩
    · exact h.elim
end
theorem wvs_nth : ∀ {l m : List AV}, wvs l m → ∀ {j b}, nth m j = some b → ∃ a, nth l j = some a ∧ wv a b
  | [], m, h, j, b, hb => by
    unfold wvs at h
    split at h
    · cases hb
    · exact h.elim
  | a :: l, m, h, j, b, hb => by
    unfold wvs at h
    split at h
    · cases j with
      | zero => simp [nth] at hb; subst hb; exact ⟨a, rfl, h.1⟩
      | succ j => exact wvs_nth h.2 (by simpa [nth] using hb)
    · exact h.elim
theorem whs_nth : ∀ {l m : Heap}, whs l m → l.length = m.length ∧ ∀ {j b}, nth m j = some (some b) → ∃ a, nth l j = some (some a) ∧ a.mt = b.mt ∧ wc a.c b.c
  | [], m, h => by
    unfold whs at h
    split at h
    · exact ⟨rfl, fun hb => by cases hb⟩
    · exact h.elim
  | a :: l, m, h => by
    unfold whs at h
    split at h
    · rename_i b m'
      obtain ⟨h1, h2⟩ := whs_nth h.2
      refine ⟨by simp [h1], fun {j b'} hb => ?_⟩
      cases j with
      | zero =>
        simp [nth] at hb
        subst hb
        have h3 := h.1
        cases a with
        | none => exact h3.elim
        | some a => exact ⟨a, rfl, sB_eq h3.1, h3.2⟩
      | succ j => exact h2 (by simpa [nth] using hb)
    · exact h.elim
theorem wh_ok {s : Sit} {h h' : Heap} (hh : HRel s h) (hw : whs h h') : HRel s h' := by
  obtain ⟨h1, h2⟩ := whs_nth hw
  refine ⟨by rw [hh.len, h1], fun j o ho => ?_, fun j k o q a b z y hj hk ho hq => ?_, hh.ownlt, hh.hidlt, hh.apart⟩
  · obtain ⟨o', g1, g2, g3⟩ := h2 ho
    obtain ⟨ab, sz, e1, e2⟩ := hh.obj j o' g1
    refine ⟨ab, sz, e1, ?_⟩
    rw [g2] at e2
    unfold wc at g3
    split at g3
    · rename_i l hl
      rw [hl] at e2
      split at g3
      · rename_i l' hl'
        rw [hl']
        obtain ⟨ad, f1, f2, f3, f4⟩ := e2
        exact ⟨ad, f1, f2, fun j b hb => by
          obtain ⟨a, q1, q2⟩ := wvs_nth g3 hb
          obtain ⟨v, q3, q4⟩ := f3 j a q1
          exact ⟨v, q3, wv_rel _ _ _ q2 q4⟩, f4⟩
      · exact g3.elim
    · rename_i sig l hl
      rw [hl] at e2
      split at g3
      · rename_i sig' l' hl'
        rw [hl']
        obtain ⟨hs, ⟨g3⟩⟩ := g3
        obtain rfl := sS_eq hs
        simp only
        rw [← g3]
        exact e2
      · exact g3.elim
  · obtain ⟨o', g1, g2, _⟩ := h2 hj
    obtain ⟨q', g3, g4, _⟩ := h2 hk
    exact hh.inj j k o' q' a b z y g1 g3 (g2.trans ho) (g4.trans hq)
theorem norm_ok {s : Sit} {st : St} {a : Act} (hs : SRel s st a) {keep : List Nat} {k : Nat} (hk : k ≤ s.base.length) : ∃ s1, s1.w = s.w ∧ Ev s s1 ∧ Kp k s s1 ∧ SRel s1 (norm keep k st) a := by
  have hg := (refsL_grows (iota k 0) (maskT keep 0 st.t)).trans (reach_grows st.h (len st.h) 0 (refsL (iota k 0) (maskT keep 0 st.t)))
  obtain ⟨g1, g2⟩ := gc_ok hs.h (hg.2 (iota_nodup k 0))
  have hpre := locBase_keep hk hg.1
  refine ⟨⟨s.w, locBase s (reach st.h (len st.h) 0 (refsL (iota k 0) (maskT keep 0 st.t))), s.own, s.hid⟩, rfl, ⟨Nat.le_refl _, fun _ _ _ => rfl, fun _ _ => rfl, fun _ h => .inl h, rfl, rfl, rfl⟩, ⟨?_, ?_⟩, g1, ?_, hs.d⟩
  · simp only
    obtain ⟨t, ht⟩ := hpre
    rw [← ht]
    rw [List.take_append_of_le_length (by simp; omega)]
    rw [List.take_take, Nat.min_self]
  · have h1 := hpre.length_le
    rw [List.length_take, Nat.min_eq_left hk] at h1
    exact h1
  · exact VRels.ren g2 (ren_loc (List.prefix_refl _)) _ _ (mask_rel keep _ _ 0 hs.t)
def resOf (a : Act) : ResultVar → Sem Value
  | .tmp t => pure (a.tmps.getD t undef)
  | .cell c t => do loadVar t (← asAddr (a.tmps.getD c undef))
section
variable {P : Program} {T : Tab} (hT : TabOk P T) {G : Env} (hG : EnvOk P G) (hm : P.follows .mixedOrders = true)
include hT hG hm
theorem iter_sound {k : Nat} {c : Code} {Q : Ex → St → Prop} {keep : List Nat}
    (hc : ∀ (st : St) (s : Sit) (a : Act) (Q : Ex → St → Prop), eCode T G k c st Q → SRel s st a → k ≤ s.base.length → c.wp P (PostC s k Q) a s.w) :
    ∀ (n : Nat) (s0 : Sit) (st : St) (s : Sit) (a : Act), eIter (eCode T G k c) (gen keep k) Q n st → SRel s st a → k ≤ s.base.length → Ev s0 s → Kp k s0 s → Code.rounds P c (PostC s0 k Q) n a s.w
  | 0, _, _, _, _, h, _, _, _, _ => h.elim
  | n + 1, s0, st, s, a, h, hs, hk, hE, hkp => by
    unfold eIter at h
    unfold Code.rounds
    obtain ⟨s1, hw, e1, e2, e3⟩ := norm_ok hs (keep := keep) hk
    obtain ⟨st1, hg, h⟩ := h
    have e3 : SRel s1 st1 a := ⟨wh_ok e3.h hg.2, wvs_rel _ _ _ hg.1 e3.t, e3.d⟩
    have := hc _ s1 a _ h e3 e2.le
    rw [hw] at this
    refine wp_mono this ?_
    rintro e a' w' ⟨ex, rfl, s', st', f1, f2, f3, rfl, f4⟩
    have hE' := (hE.trans e1).trans f1
    have hkp' := (hkp.trans e2).trans f2
    cases ex with
    | normal => exact iter_sound hc n s0 st' s' a' f4 f3 f2.le hE' hkp'
    | exit i => exact ⟨.exit i, rfl, s', st', hE', hkp', f3, rfl, f4⟩
    | ret => exact ⟨.ret, rfl, s', st', hE', hkp', f3, rfl, f4⟩
theorem code_sound {k : Nat} : ∀ (c : Code), codeOk c = true → ∀ (st : St) (s : Sit) (a : Act) (Q : Ex → St → Prop), eCode T G k c st Q → SRel s st a → k ≤ s.base.length → c.wp P (PostC s k Q) a s.w := by
  intro c
  induction c with
  | skip =>
    intro _ st s a Q h hs hk
    unfold eCode at h
    exact wp_skip ⟨.normal, rfl, s, st, Ev.refl s, Kp.refl hk, hs, rfl, h⟩
  | region id ops draw =>
    intro hok st s a Q h hs hk
    unfold eCode at h
    have fin : ∀ s' st' a', Ev s s' → s.base <+: s'.base → SRel s' st' a' → Q .normal st' → PostC s k Q .normal a' s'.w := fun s' st' a' e1 e2 e3 e4 => ⟨.normal, rfl, s', st', e1, Kp.of_prefix hk e2, e3, rfl, e4⟩
    cases draw with
    | false => exact wp_region_list (ops_sound hT hG _ s st a _ hs h fin)
    | true =>
      simp only [codeOk, Bool.not_true, Bool.false_or] at hok
      exact region_sound hT hG hok PostC.noPanic PostC.noOut hm h hs fin
  | seq x y ihx ihy =>
    intro hok st s a Q h hs hk
    simp only [codeOk, Bool.and_eq_true] at hok
    unfold eCode at h
    refine wp_seq (wp_mono (ihx hok.1 st s a _ h hs hk) ?_)
    rintro e a' w' ⟨ex, rfl, s', st', f1, f2, f3, rfl, f4⟩
    cases ex with
    | normal => exact wp_mono (ihy hok.2 st' s' a' Q f4 f3 f2.le) fun e a w h => h.back f1 f2
    | exit i => exact ⟨.exit i, rfl, s', st', f1, f2, f3, rfl, f4⟩
    | ret => exact ⟨.ret, rfl, s', st', f1, f2, f3, rfl, f4⟩
  | cond c x y ihx ihy =>
    intro hok st s a Q h hs hk
    simp only [codeOk, Bool.and_eq_true] at hok
    unfold eCode at h
    have hc := ev_rel (a := a) hs.t c
    split at h
    · rename_i b hb
      rw [hb] at hc
      simp only [VRel] at hc
      split at h
      · exact wp_cond_true hc (ihx hok.1 st s a Q h hs hk)
      · exact wp_cond_false hc (ihy hok.2 st s a Q h hs hk)
      · rename_i f
        cases h with
        | mk h1 h2 => exact wp_cond_split hc (fun e => ihx hok.1 st s a Q (h1 e) hs hk) fun e => ihy hok.2 st s a Q (h2 e) hs hk
    · exact h.elim
  | block id c ih =>
    intro hok st s a Q h hs hk
    simp only [codeOk] at hok
    unfold eCode at h
    refine wp_block (wp_mono (ih hok st s a _ h hs hk) ?_)
    rintro e a' w' ⟨ex, rfl, s', st', f1, f2, f3, rfl, f4⟩
    cases ex with
    | normal => exact ⟨.normal, rfl, s', st', f1, f2, f3, rfl, f4⟩
    | exit i =>
      simp only [exOf, Exit.inBlock]
      simp only [blockQ] at f4
      by_cases hi : i = id
      · rw [if_pos hi]
        subst hi
        rw [Nat.beq_refl] at f4
        exact ⟨.normal, rfl, s', st', f1, f2, f3, rfl, f4⟩
      · rw [if_neg hi]
        have : Nat.beq i id = false := by
          cases hb : Nat.beq i id
          · rfl
          · exact absurd (Nat.eq_of_beq_eq_true hb) hi
        rw [this] at f4
        exact ⟨.exit i, rfl, s', st', f1, f2, f3, rfl, f4⟩
    | ret => exact ⟨.ret, rfl, s', st', f1, f2, f3, rfl, f4⟩
  | loop c ih =>
    intro hok st s a Q h hs hk
    simp only [codeOk] at hok
    unfold eCode at h
    obtain ⟨n, keep, h⟩ := h
    exact wp_loop_rounds n (iter_sound hT hG hm (ih hok) n s st s a h hs hk (Ev.refl s) (Kp.refl hk))
  | exit id =>
    intro _ st s a Q h hs hk
    unfold eCode at h
    exact wp_exit ⟨.exit id, rfl, s, st, Ev.refl s, Kp.refl hk, hs, rfl, h⟩
  | ret =>
    intro _ st s a Q h hs hk
    unfold eCode at h
    exact wp_ret ⟨.ret, rfl, s, st, Ev.refl s, Kp.refl hk, hs, rfl, h⟩
  | rangeFunc f ps x y ihx ihy => intro _ st s a Q h; unfold eCode at h; exact h.elim
  | scope c ih => intro _ st s a Q h; unfold eCode at h; exact h.elim
  | label l => intro _ st s a Q h; unfold eCode at h; exact h.elim
  | goto l => intro _ st s a Q h; unfold eCode at h; exact h.elim
  | refuse w => intro _ st s a Q h; unfold eCode at h; exact h.elim
omit hG hm in
theorem res_sound {s : Sit} {st : St} {a : Act} (hs : SRel s st a) : ∀ (rs : List ResultVar) (K : List AV → Prop), eRes T st rs K →
    ∃ vs us, K vs ∧ VRels s vs us ∧ us.length = rs.length ∧ (rs.mapM (resOf a)).run P s.w = .ok us s.w
  | [], K, h => ⟨[], [], h, by simp [VRels], rfl, by simp⟩
  | .tmp t :: l, K, h => by
    simp only [eRes] at h
    split at h
    · rename_i v hv
      obtain ⟨u, hu, hr⟩ := hs.t.array hv
      obtain ⟨vs, us, h1, h2, h3, h4⟩ := res_sound hs l _ h
      refine ⟨_, u :: us, h1, by simp only [VRels]; exact ⟨u, us, rfl, hr, h2⟩, by simp [h3], ?_⟩
      have hgd : a.tmps.getD t undef = u := by simp [hu]
      rw [List.mapM_cons]
      simp only [Sem.run_bind, Sem.run_pure, Result.andThen_ok, h4, hgd, resOf]
    · exact h.elim
  | .cell c t :: l, K, h => by
    simp only [eRes] at h
    split at h
    · rename_i v hv
      obtain ⟨u, hu, hr⟩ := hs.t.array hv
      have hp : ∃ ad, u = .pointer (some ad) := by
        unfold eLoad at h
        split at h
        · simp only [VRel] at hr
          obtain ⟨ad, _, rfl⟩ := hr
          exact ⟨ad, rfl⟩
        · exact h.elim
      obtain ⟨av, v', r, h1, h2, h3, h4⟩ := eLoad_ok hT hs.h h hr
      obtain ⟨vs, us, g1, g2, g3, g4⟩ := res_sound hs l _ h3
      refine ⟨_, v' :: us, g1, by simp only [VRels]; exact ⟨v', us, rfl, h2, g2⟩, by simp [g3], ?_⟩
      obtain ⟨ad, rfl⟩ := hp
      have h1 := h1 s.w fun _ _ => rfl
      simp only [Instr.loadAt, Instr.sureAddr, Sem.run_bind, Sem.run_pure, Result.andThen_ok] at h1
      have hgd : a.tmps.getD c undef = .pointer (some ad) := by simp [hu]
      have hasA : (asAddr (.pointer (some ad))).run P s.w = .ok ad s.w := by simp [asAddr]
      rw [List.mapM_cons]
      simp only [Sem.run_bind, Sem.run_pure, Result.andThen_ok, hgd, hasA, h1, g4, resOf]
    · exact h.elim
theorem undefs_eq : ∀ n, undefs n = List.replicate n AV.undef
  | 0 => rfl
  | n + 1 => by simp [undefs, undefs_eq n, List.replicate_succ]
omit hG hm in
theorem ret_sound {fn : Func} {s : Sit} {st : St} {a : Act} (hs : SRel s st a) {k : Nat} (hk : k ≤ s.base.length) {K : AV → Heap → Prop} {ex : Ex} (h : eRet T k fn.results.toList K ex st) :
    ∃ s' v av h', (results fn a.tmps).run P s.w = .ok v s.w ∧ s'.w = s.w ∧ Ev s s' ∧ Kp k s s' ∧ HRel s' h' ∧ VRel s' av v ∧ K av h' := by
  unfold eRet at h
  split at h
  · exact h.elim
  · obtain ⟨vs, us, h1, h2, h3, h4⟩ := res_sound hT hs _ _ h
    have hrun : (results fn a.tmps).run P s.w = .ok (if h : us.toArray.size = 1 then us.toArray[0] else .tuple us.toArray) s.w := by
      have e : results fn a.tmps = (do
          let vs ← fn.results.mapM (resOf a)
          pure (if h : vs.size = 1 then vs[0] else .tuple vs)) := rfl
      rw [e, ← Array.toArray_toList (xs := fn.results), List.mapM_toArray]
      simp only [map_eq_pure_bind, Sem.run_bind, h4, Result.andThen_ok, Sem.run_pure]
    have hv : VRel s (one vs) (if h : us.toArray.size = 1 then us.toArray[0] else .tuple us.toArray) := by
      match vs, us, h2 with
      | [], us, h2 =>
        simp only [VRels] at h2
        subst h2
        simp [one, VRel, VRels]
      | [v], us, h2 =>
        simp only [VRels] at h2
        obtain ⟨u, r, rfl, h2, rfl⟩ := h2
        simpa [one] using h2
      | v :: v' :: l, us, h2 =>
        have hl := h2.length
        simp at hl
        rw [dif_neg (by simp; omega)]
        simp only [one, VRel]
        exact ⟨_, rfl, by simpa using h2⟩
    have hg := (refsV_grows (iota k 0) (one vs)).trans (reach_grows st.h (len st.h) 0 (refsV (iota k 0) (one vs)))
    obtain ⟨g1, g2⟩ := gc_ok hs.h (hg.2 (iota_nodup k 0))
    have hpre := locBase_keep hk hg.1
    refine ⟨⟨s.w, locBase s (reach st.h (len st.h) 0 (refsV (iota k 0) (one vs))), s.own, s.hid⟩, _, _, _, hrun, rfl, ⟨Nat.le_refl _, fun _ _ _ => rfl, fun _ _ => rfl, fun _ h => .inl h, rfl, rfl, rfl⟩, ⟨?_, ?_⟩, g1, VRel.ren g2 (ren_loc (List.prefix_refl _)) _ _ hv, h1⟩
    · simp only
      obtain ⟨t, ht⟩ := hpre
      rw [← ht]
      rw [List.take_append_of_le_length (by simp; omega)]
      rw [List.take_take, Nat.min_self]
    · have h1 := hpre.length_le
      rw [List.length_take, Nat.min_eq_left hk] at h1
      exact h1
/-- what the model says of code that begins in a state -/
def SCode (P : Program) (k : Nat) (c : Code) (st : St) (Q : Ex → St → Prop) : Prop := ∀ (s : Sit) (a : Act), SRel s st a → k ≤ s.base.length → c.wp P (PostC s k Q) a s.w
/-- the round's end -/
inductive At (R : St → Prop) (st : St) : Prop | mk : R st → At R st
/-- where code is cut: it goes on from a state, or ends -/
def toQ (st1 : St) (Q : Ex → St → Prop) : Ex → St → Prop
  | .normal, st => At (fun st => st = st1 ∨ (wvs st.t st1.t ∧ whs st.h st1.h)) st
  | .exit i, st => Q (.exit i) st
  | .ret, st => Q .ret st
theorem SCode.of_E {k : Nat} {c : Code} (hok : codeOk c = true) {st : St} {Q : Ex → St → Prop} (h : eCode T G k c st Q) : SCode P k c st Q :=
  fun s a hs hk => code_sound hT hG hm c hok st s a Q h hs hk
omit hT hG hm in
theorem SCode.seq {k : Nat} {x y : Code} {st st1 : St} {Q : Ex → St → Prop} (h1 : SCode P k x st (toQ st1 Q)) (h2 : SCode P k y st1 Q) : SCode P k (x.seq y) st Q := by
  intro s a hs hk
  refine wp_seq (wp_mono (h1 s a hs hk) ?_)
  rintro e a' w' ⟨ex, rfl, s', st', f1, f2, f3, rfl, f4⟩
  cases ex with
  | normal =>
    cases f4 with
    | mk g =>
      refine wp_mono (h2 s' a' ?_ f2.le) fun e a w h => h.back f1 f2
      rcases g with rfl | g
      · exact f3
      · exact ⟨wh_ok f3.h g.2, wvs_rel _ _ _ g.1 f3.t, f3.d⟩
  | exit i => exact ⟨.exit i, rfl, s', st', f1, f2, f3, rfl, f4⟩
  | ret => exact ⟨.ret, rfl, s', st', f1, f2, f3, rfl, f4⟩
omit hT hG hm in
theorem SCode.weak {k : Nat} {c : Code} {st st1 : St} {Q : Ex → St → Prop} (h1 : wvs st.t st1.t) (h2 : whs st.h st1.h) (h : SCode P k c st1 Q) : SCode P k c st Q :=
  fun s a hs hk => h s a ⟨wh_ok hs.h h2, wvs_rel _ _ _ h1 hs.t, hs.d⟩ hk
/-- A contract that the evaluator confirms is kept. -/
theorem sound_of_S {f : FuncId} {fn : Func} {c : Code} (hf : P.funcs[f]? = some fn) (hb : fn.body = some c) {C : Con} (hC : ∀ args h K, C args h K → SCode P (len h) c ⟨args ++ undefs (fn.ntmps - len args), h⟩ (eRet T (len h) fn.results.toList K)) : Sound P f C := by
  intro s h args vals K hh hv hc
  have he := hC args h K hc
  rw [len_eq] at he
  have hlen := hv.length
  have hs : SRel s ⟨args ++ undefs (fn.ntmps - len args), h⟩ { tmps := vals.toArray ++ Array.replicate (fn.ntmps - vals.toArray.size) undef, defers := [] } := by
    refine ⟨hh, ?_, rfl⟩
    rw [len_eq, undefs_eq hT hG hm]
    simp only [Array.toList_append, List.size_toArray, hlen, Array.toList_replicate]
    refine hv.append (VRels.mk (by simp) fun i x hx => ?_)
    rw [nth_eq, List.getElem?_replicate] at hx
    split at hx
    · simp at hx; subst hx
      exact ⟨undef, by simp [*], by simp [VRel]⟩
    · cases hx
  have hk : h.length ≤ s.base.length := by rw [hh.len]; exact Nat.le_refl _
  refine calls_of_wp hf hb (wp_mono (he s _ hs hk) ?_)
  rintro e a' w' ⟨ex, rfl, s', st', f1, f2, f3, rfl, f4⟩
  have hret := ret_sound hT f3 f2.le f4
  obtain ⟨s2, v, av, h', r1, r2, r3, r4, r5, r6, r7⟩ := hret
  have hpre : s.base <+: s2.base := by
    have := (f2.trans r4).take
    have e : s.base.take h.length = s.base := List.take_of_length_le (by rw [hh.len]; exact Nat.le_refl _)
    rw [e] at this
    exact ⟨s2.base.drop h.length, by rw [← this, List.take_append_drop]⟩
  have fin : ∃ v, (results fn a'.tmps).run P s'.w = .ok v s'.w ∧ ∃ s2 v' av h', Ending.returned v = .returned v' ∧ s2.w = s'.w ∧ Ev s s2 ∧ s.base <+: s2.base ∧ HRel s2 h' ∧ VRel s2 av v' ∧ K av h' :=
    ⟨v, r1, s2, v, av, h', rfl, r2, f1.trans r3, hpre, r5, r6, r7⟩
  cases ex with
  | normal => exact ⟨f3.d, fin⟩
  | ret => exact ⟨f3.d, fin⟩
  | exit i => exact f4.elim
theorem sound_of_E {f : FuncId} {fn : Func} {c : Code} (hf : P.funcs[f]? = some fn) (hb : fn.body = some c) (hok : codeOk c = true) {C : Con} (hC : ∀ args h K, C args h K → eFunc T G c fn.ntmps fn.results.toList args h K) : Sound P f C :=
  sound_of_S hT hG hm hf hb fun args h K hc => SCode.of_E hT hG hm hok (hC args h K hc)
end
end Go.Sy
