/- Soundness: a region whose order Go leaves open. -/
import Derived.Test.YtlgmbpnlakjefaaSyU
namespace Go.Sy
set_option linter.unusedSimpArgs false
set_option linter.unusedVariables false
set_option linter.unusedSectionVars false
open Region (ready binds)
section
variable {P : Program} {T : Tab} (hT : TabOk P T) {G : Env} (hG : EnvOk P G) {ops : Array Oper} (hok : regOk ops = true) {Q : Exit → Act → World → Prop} (hQ : ∀ c a w, ¬ Q (.panic c) a w) (hO : ¬ LetsOut Q)
theorem mem_obsOf (deps : List Nat) (obs : List Ob) : ∀ (l : List Tch), (∀ o ∈ obs, o ∈ obsOf deps obs l) ∧ ∀ t ∈ l, (⟨deps, t⟩ : Ob) ∈ obsOf deps obs l
  | [] => ⟨fun o h => h, fun t h => by cases h⟩
  | t :: l => by
    obtain ⟨h1, h2⟩ := mem_obsOf deps obs l
    refine ⟨fun o h => List.mem_cons_of_mem _ (h1 o h), fun u hu => ?_⟩
    rcases List.mem_cons.1 hu with rfl | hu
    · exact List.mem_cons_self
    · exact List.mem_cons_of_mem _ (h2 u hu)
theorem keeps_spec {done : List Nat} {tc : List Tch} : ∀ {obs : List Ob}, keeps done tc obs = true → ∀ o ∈ obs, anyIn o.deps done = true ∨ clashes o.tch tc = false
  | [], _, o, h => by cases h
  | q :: l, hk, o, h => by
    simp only [keeps] at hk
    split at hk
    · rename_i hq
      rcases List.mem_cons.1 h with rfl | h
      · exact .inl hq
      · exact keeps_spec hk o h
    · split at hk
      · cases hk
      · rename_i hq
        rcases List.mem_cons.1 h with rfl | h
        · exact .inr hq
        · exact keeps_spec hk o h
theorem anyIn_true {m : List Nat} : ∀ {l : List Nat}, anyIn l m = true → ∃ d ∈ l, d ∈ m
  | [], h => by cases h
  | a :: l, h => by
    simp only [anyIn] at h
    split at h
    · rename_i ha
      exact ⟨a, List.mem_cons_self, (memN_iff m a).1 ha⟩
    · obtain ⟨d, h1, h2⟩ := anyIn_true h
      exact ⟨d, List.mem_cons_of_mem _ h1, h2⟩
include hT hG hok hQ hO
theorem any_sound : ∀ (n fuel : Nat) (done eff : List Nat) (left : List (Nat × Oper)) (obs : List Ob) (sobs : List SOb) (st : St) (s : Sit) (a : Act) (L : Array Bool) (K : St → Prop),
    eAny T G ops.toList n done eff left obs st K → SRel s st a → LRel ops L done eff left → fuel = left.length → ObsOk sobs obs eff s st.h →
    (∀ s' st' a', Ev s s' → s.base <+: s'.base → SRel s' st' a' → K st' → Q .normal a' s'.w) → wpAnyI P ops Q (Obs ops sobs) fuel L a s.w := by
  intro n
  induction n with
  | zero => intro fuel done eff left obs sobs st s a L K he; exact he.elim
  | succ n ih =>
    intro fuel done eff left obs sobs st s a L K he hs hL hf hob hK
    have hnow := hob.now hL
    obtain ⟨hsel0, hap0⟩ := regOk_spec hok
    have hsel := Region.noSelect_spec hsel0
    have hfree : ∀ i oi, i ∈ ready .any ops L → ops[i]? = some oi → ∀ j oj, ops[j]? = some oj → j ≠ i → L.getD j true = false → (∀ e ∈ oj.after, binds .any e = true → e.on ≠ i) → oi.apart ops oj = true := by
      intro i oi hi hoi j oj hoj hne hun hno
      rcases hap0 i j oi oj (fun e => hne e.symm) hoi hoj with ⟨e, he, hb, h1⟩ | ⟨e, he, hb, h1⟩ | h1
      · obtain ⟨_, o, ho, h2⟩ := mem_ready.1 hi
        rw [hoi] at ho
        simp at ho
        subst ho
        have := h2 e he hb
        rw [h1, getD_of hun] at this
        cases this
      · exact absurd h1 (hno e he hb)
      · exact h1
    unfold eAny at he
    split at he
    · -- all done
      have hr : ready .any ops L = [] := by
        cases hr : ready .any ops L with
        | nil => rfl
        | cons i l =>
          have hi : i ∈ ready .any ops L := by rw [hr]; exact List.mem_cons_self
          obtain ⟨o, ho⟩ := (ready_iff hL i).1 hi
          simp [readys] at ho
      simp at hf
      subst hf
      exact ⟨hnow, hr, hK s st a (Ev.refl s) (prefix_refl' _) hs he⟩
    · have hrd := ready_iff hL
      revert he
      generalize hrs : readys done left = rs at hrd
      intro he
      have inLeft : ∀ p ∈ rs, p ∈ left := fun p hp => by rw [← hrs] at hp; exact (mem_readys.1 hp).1
      split at he
      · -- a pure one
        rename_i p hp
        obtain ⟨hpm, hpp⟩ := firstPure_spec hp
        have hpl := inLeft p hpm
        obtain ⟨hpo, hpu⟩ := hL.lft p hpl
        have hpr : p.1 ∈ ready .any ops L := (hrd p.1).2 ⟨p.2, hpm⟩
        obtain ⟨hL', hlen⟩ := hL.step hpl (eff' := eff) (.inl rfl)
        obtain ⟨m, rfl⟩ : ∃ m, fuel = m + 1 := ⟨_, hf.trans hlen⟩
        have noEff : ¬ effIdx ops p.1 := by
          rintro ⟨o, ho, h1, _⟩
          rw [hpo] at ho; simp at ho; subst ho
          rw [hpp] at h1; cases h1
        have take : ∀ (v : Value) (st' : St), YieldsIn P ops (fun _ => True) p.2 v a → SRel s st' (a.put p.2.dst v) → st'.h = st.h → eAny T G ops.toList n (p.1 :: done) eff (del p.1 left) obs st' K →
            wpAnyI P ops Q (Obs ops sobs) (m + 1) L a s.w := by
          intro v st' hy hs' hst' he'
          refine firstI (S := fun _ => True) (I' := Obs ops sobs) (F := fun _ => False) hpo hsel hQ hO (fun _ h => h.elim) (fun L' w' h' ob hb => ?_) (fun _ _ h => h) (fun _ _ _ _ _ => trivial) m L a s.w (hfree _ _ hpr hpo) hpr (fun _ h => h.elim) hy ?_
          · rcases h' ob hb with ⟨d, h1, h2, h3⟩ | h1
            · refine .inl ⟨d, h1, h2, ?_⟩
              rw [getD_set_ne false (fun e => noEff (by rw [e]; exact h2))] at h3
              exact h3
            · exact .inr h1
          · exact ih m _ _ _ obs sobs st' s _ _ K he' hs' hL' (by omega) (by rw [hst']; exact hob) hK
        rcases guard_ok hs he with ⟨hw, st', hst', hs', he⟩ | ⟨hw, st', hst', hs', he⟩
        · obtain ⟨av, v, h1, h2, h3⟩ := ePure_sound hT hs'.t hs'.h p.2 he
          exact take v _ (.inl ⟨hw, fun w _ => h1 w⟩) (hs'.put _ h2) hst' h3
        · exact take undef _ (.inr ⟨hw, rfl⟩) (hs'.put _ (undef_rel s)) hst' he
      · rename_i hnp
        split at he
        · -- a load
          rename_i p hp
          obtain ⟨hpm, hpp⟩ := firstLoad_spec hp
          have hpl := inLeft p hpm
          obtain ⟨hpo, hpu⟩ := hL.lft p hpl
          have hpr : p.1 ∈ ready .any ops L := (hrd p.1).2 ⟨p.2, hpm⟩
          obtain ⟨hL', hlen⟩ := hL.step hpl (eff' := eff) (.inl rfl)
          obtain ⟨m, rfl⟩ : ∃ m, fuel = m + 1 := ⟨_, hf.trans hlen⟩
          have noEff : ¬ effIdx ops p.1 := by
            rintro ⟨o, ho, _, h1⟩
            rw [hpo] at ho; simp at ho; subst ho
            rw [hpp] at h1; cases h1
          rcases guard_ok hs he with ⟨hw, st', hst', hs', he⟩ | ⟨hw, st', hst', hs', he⟩
          · -- it is carried out
            obtain ⟨t, x, hop⟩ : ∃ t x, p.2.op = .load t x := by
              cases hop : p.2.op <;> rw [hop] at hpp <;> first | exact ⟨_, _, rfl⟩ | cases hpp
            unfold eStep at he
            rw [hop] at he
            simp only [isPure] at he
            obtain ⟨av, v, r, h1, h2, h3, h4⟩ := eLoad_ok hT hs'.h he (ev_rel hs'.t x)
            have hrun : ∀ w, (∀ ad, Foot s r ad → w.cell? ad = s.w.cell? ad) → (execOp a.eval p.2).run P w = .ok (.value v) w := fun w hw' => by
              simp only [execOp, hop, Sem.run_bind, h1 w hw', Result.andThen_ok]; rfl
            have fspec := followers_spec p.1 (del p.1 left) []
            have dspec := (del_spec (n := p.1) hL.nodup).1
            refine firstI (S := fun w => ∀ ad, Foot s r ad → w.cell? ad = s.w.cell? ad) (I' := Obs ops (⟨followers p.1 (del p.1 left) [], Foot s r, s.w⟩ :: sobs)) (F := fun d => d ∈ followers p.1 (del p.1 left) []) hpo hsel hQ hO
              (fun d hd o ho => ?_) (fun L' w' h' ob hb => ?_) (fun L' w' h' ob hb => h' ob (List.mem_cons_of_mem _ hb)) (fun L' w' hun hF h' => ?_) m L a s.w (hfree _ _ hpr hpo) hpr (fun d hd => ?_) (.inl ⟨hw, hrun⟩) ?_
            · rcases fspec.2 d hd with h | ⟨o', ho', e, he, hb, h5⟩
              · cases h
              · have := (hL.lft _ (mem_del ho')).1
                simp only at this
                rw [ho] at this
                simp at this
                subst this
                exact ⟨e, by simpa using he, hb, h5⟩
            · rcases h' ob (List.mem_cons_of_mem _ hb) with ⟨d, h1, h2, h3⟩ | h1
              · refine .inl ⟨d, h1, h2, ?_⟩
                rw [getD_set_ne false (fun e => noEff (by rw [e]; exact h2))] at h3
                exact h3
              · exact .inr h1
            · rcases h' _ List.mem_cons_self with ⟨d, h1, h2, h3⟩ | h1
              · rw [getD_set_ne false (fun e => noEff (by rw [e]; exact h2))] at h3
                rw [hF d h1] at h3; cases h3
              · exact h1
            · rcases fspec.2 d hd with h | ⟨o', ho', _⟩
              · cases h
              · exact getD_of (hL.lft _ (mem_del ho')).2
            · refine ih m _ _ _ _ _ _ s _ _ K h3 (hs'.put _ h2) hL' (by omega) ?_ hK
              intro ob hb
              rcases List.mem_cons.1 hb with rfl | hb
              · exact .inr ⟨⟨_, r⟩, (mem_obsOf _ _ _).2 r (by simp), rfl, h4, fun _ h => h, fun _ _ => rfl⟩
              · simp only
                rw [hst']
                rcases hob ob hb with h | ⟨o, g1, g2⟩
                · exact .inl h
                · exact .inr ⟨o, (mem_obsOf _ _ _).1 o g1, g2⟩
          · -- it is passed over
            refine firstI (S := fun _ => True) (I' := Obs ops sobs) (F := fun _ => False) (v := undef) hpo hsel hQ hO (fun _ h => h.elim) (fun L' w' h' ob hb => ?_) (fun _ _ h => h) (fun _ _ _ _ _ => trivial) m L a s.w (hfree _ _ hpr hpo) hpr (fun _ h => h.elim) (.inr ⟨hw, rfl⟩) ?_
            · rcases h' ob hb with ⟨d, h1, h2, h3⟩ | h1
              · refine .inl ⟨d, h1, h2, ?_⟩
                rw [getD_set_ne false (fun e => noEff (by rw [e]; exact h2))] at h3
                exact h3
              · exact .inr h1
            · exact ih m _ _ _ obs sobs _ s _ _ K he (hs'.put _ (undef_rel s)) hL' (by omega) (by simp only; rw [hst']; exact hob) hK
        · rename_i hnl
          -- effects: whichever of them comes
          split at he
          · exact he.elim
          · rename_i hne
            have hpos : ∃ p, p ∈ rs := by
              cases rs with
              | nil => exact absurd rfl hne
              | cons p l => exact ⟨p, List.mem_cons_self⟩
            obtain ⟨p0, hp0⟩ := hpos
            have hlen0 := (hL.step (inLeft p0 hp0) (eff' := eff) (.inl rfl)).2
            obtain ⟨m, rfl⟩ : ∃ m, fuel = m + 1 := ⟨_, hf.trans hlen0⟩
            refine ⟨hnow, fun h => ?_, fun i hi => ?_⟩
            · have := (hrd p0.1).2 ⟨p0.2, hp0⟩
              rw [h] at this
              cases this
            · obtain ⟨o, ho⟩ := (hrd i).1 hi
              have he := allOf_mem he _ ho
              simp only at he
              have hpl := inLeft _ ho
              obtain ⟨hpo, hpu⟩ := hL.lft _ hpl
              simp only at hpo hpu
              have hkinds := And.intro (firstPure_none hnp _ ho) (firstLoad_none hnl _ ho)
              obtain ⟨hL', hlen⟩ := hL.step hpl (eff' := i :: eff) (.inr ⟨rfl, hkinds⟩)
              simp only at hL' hlen
              unfold wpOp
              simp only [hpo]
              rcases guard_ok hs he with ⟨hw, st', hst', hs', he⟩ | ⟨hw, st', hst', hs', he⟩
              · rw [if_pos hw]
                refine .inl (step_sound hT hG hs' he fun s2 st2 r tc a2 e1 e2 e3 e4 e5 => ?_)
                split at e5
                · rename_i hk
                  refine ih m _ _ _ obs sobs st2 s2 a2 _ K e5 e3 hL' (by omega) ?_ (fun s3 st3 a3 f1 f2 f3 f4 => hK s3 st3 a3 (e1.trans f1) (e2.trans f2) f3 f4)
                  intro ob hb
                  rcases hob ob hb with ⟨d, h1, h2⟩ | ⟨q, g1, g2, g3, g4, g5⟩
                  · exact .inl ⟨d, h1, List.mem_cons_of_mem _ h2⟩
                  · rcases keeps_spec hk q g1 with h | h
                    · obtain ⟨d, h1, h2⟩ := anyIn_true h
                      exact .inl ⟨d, by rw [← g2]; exact h1, h2⟩
                    · rw [hst'] at e4
                      obtain ⟨u1, u2⟩ := e4 q.tch h g3
                      exact .inr ⟨q, g1, g2, u1, fun ad h => (g4 ad h).prefix e2, fun ad h => by rw [u2 ad (g4 ad h), g5 ad h]⟩
                · exact e5.elim
              · rw [if_neg (by rw [hw]; simp)]
                refine ih m _ _ _ obs sobs _ s _ _ K he (hs'.put _ (undef_rel s)) hL' (by omega) ?_ hK
                simp only
                rw [hst']
                intro ob hb
                rcases hob ob hb with ⟨d, h1, h2⟩ | h
                · exact .inl ⟨d, h1, List.mem_cons_of_mem _ h2⟩
                · exact .inr h
omit hT hG hok hQ hO in
theorem num_spec {α : Type} : ∀ (l : List α) (n : Nat), (∀ p, p ∈ num n l ↔ n ≤ p.1 ∧ l[p.1 - n]? = some p.2) ∧ ((num n l).map (·.1)) = List.range' n l.length
  | [], n => ⟨fun p => by simp [num], rfl⟩
  | a :: l, n => by
    obtain ⟨h1, h2⟩ := num_spec l (n + 1)
    refine ⟨fun p => ?_, ?_⟩
    · simp only [num, List.mem_cons, h1]
      constructor
      · rintro (rfl | ⟨e1, e2⟩)
        · simp
        · refine ⟨by omega, ?_⟩
          rw [show p.1 - n = (p.1 - (n + 1)) + 1 by omega]
          simpa using e2
      · rintro ⟨e1, e2⟩
        by_cases e : p.1 = n
        · left
          rw [e] at e2
          simp at e2
          exact Prod.ext e e2.symm
        · right
          refine ⟨by omega, ?_⟩
          rw [show p.1 - n = (p.1 - (n + 1)) + 1 by omega] at e2
          simpa using e2
    · simp [num, h2, List.range'_succ]
theorem region_sound (hm : P.follows .mixedOrders = true) {id : Nat} {st : St} {s : Sit} {a : Act} {K : St → Prop} (he : eAny T G ops.toList (len ops.toList + 1) [] [] (num 0 ops.toList) [] st K) (hs : SRel s st a)
    (hK : ∀ s' st' a', Ev s s' → s.base <+: s'.base → SRel s' st' a' → K st' → Q .normal a' s'.w) : (Code.region id ops true).wp P Q a s.w := by
  refine wp_region_any hm (wpAny_of_I _ _ _ _ (I := Obs ops []) ?_)
  obtain ⟨n1, n2⟩ := num_spec ops.toList 0
  refine any_sound hT hG hok hQ hO _ _ [] [] (num 0 ops.toList) [] [] st s.drew a _ K he ⟨drew_ok hs.h, VRels.mono (drew_ev s) (prefix_refl' _) _ _ hs.t, hs.d⟩ ⟨by simp, ?_, ?_, ?_, (fun d h => by cases h), ?_⟩ ?_ (fun ob h => by cases h) fun s' st' a' e1 e2 e3 e4 => hK s' st' a' ((drew_ev s).trans e1) e2 e3 e4
  · intro p hp
    obtain ⟨_, h2⟩ := (n1 p).1 hp
    simp at h2
    have := (Array.getElem?_eq_some_iff.1 h2).1
    exact ⟨h2, by simp [this]⟩
  · intro j o hj _
    exact (n1 _).2 ⟨Nat.zero_le _, by simpa using hj⟩
  · intro j
    simp only [memN]
    by_cases h : j < ops.size
    · simp [h]
    · simp [h]
  · rw [n2]; exact List.nodup_range'
  · have := congrArg List.length n2
    simpa using this.symm
end
end Go.Sy
