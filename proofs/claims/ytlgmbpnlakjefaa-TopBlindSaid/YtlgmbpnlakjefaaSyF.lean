/- Soundness: lists, cells and rows. -/
import Derived.Test.YtlgmbpnlakjefaaSyE
namespace Go.Sy
set_option linter.unusedSimpArgs false
set_option linter.unusedVariables false

theorem takeX_some {α : Type} : ∀ {n : Nat} {l r : List α}, takeX n l = some r → n ≤ l.length ∧ r = l.take n
  | 0, l, r, h => by simp [takeX] at h; simp [← h]
  | n + 1, [], r, h => by simp [takeX] at h
  | n + 1, a :: l, r, h => by
    simp only [takeX] at h
    split at h
    · rename_i r' hr
      obtain ⟨h1, rfl⟩ := takeX_some hr
      simp at h; subst h
      exact ⟨by simp; omega, rfl⟩
    · cases h
theorem dropX_some {α : Type} : ∀ {n : Nat} {l r : List α}, dropX n l = some r → n ≤ l.length ∧ r = l.drop n
  | 0, l, r, h => by simp [dropX] at h; simp [h]
  | n + 1, [], r, h => by simp [dropX] at h
  | n + 1, a :: l, r, h => by
    simp only [dropX] at h
    obtain ⟨h1, h2⟩ := dropX_some h
    exact ⟨by simp; omega, by simpa using h2⟩
theorem part_some {α : Type} {l r : List α} {off n : Nat} (h : Sy.part l off n = some r) : off + n ≤ l.length ∧ r = (l.drop off).take n := by
  unfold Sy.part at h
  split at h
  · rename_i q hq
    obtain ⟨h1, rfl⟩ := dropX_some hq
    obtain ⟨h2, h3⟩ := takeX_some h
    refine ⟨?_, h3⟩
    simp at h2; omega
  · cases h
theorem putAt_some {α : Type} : ∀ {l : List α} {off : Nat} {bs r : List α}, putAt l off bs = some r →
    off + bs.length ≤ l.length ∧ r.length = l.length ∧ ∀ j, r[j]? = if off ≤ j ∧ j < off + bs.length then bs[j - off]? else l[j]?
  | l, 0, [], r, h => by
    simp only [putAt, Option.some.injEq] at h; subst h
    refine ⟨by simp, rfl, fun j => ?_⟩
    rw [if_neg (by simp)]
  | [], 0, b :: bs, r, h => by simp [putAt] at h
  | a :: l, 0, b :: bs, r, h => by
    simp only [putAt] at h
    split at h
    · rename_i q hq
      obtain ⟨h1, h2, h3⟩ := putAt_some hq
      simp at h; subst h
      refine ⟨by simp at *; omega, by simp [h2], fun j => ?_⟩
      cases j with
      | zero => simp
      | succ j =>
        have := h3 j
        simp only [Nat.zero_le, true_and, Nat.zero_add, Nat.sub_zero, List.length_cons, List.getElem?_cons_succ] at *
        rw [this]
        by_cases hj : j < bs.length
        · rw [if_pos hj, if_pos (by omega)]
        · rw [if_neg hj, if_neg (by omega)]
    · cases h
  | [], off + 1, bs, r, h => by simp [putAt] at h
  | a :: l, off + 1, bs, r, h => by
    simp only [putAt] at h
    split at h
    · rename_i q hq
      obtain ⟨h1, h2, h3⟩ := putAt_some hq
      simp at h; subst h
      refine ⟨by simp at *; omega, by simp [h2], fun j => ?_⟩
      cases j with
      | zero => simp
      | succ j =>
        have := h3 j
        simp only [List.getElem?_cons_succ] at *
        rw [this]
        by_cases hj : off ≤ j ∧ j < off + bs.length
        · rw [if_pos hj, if_pos (by omega), show j + 1 - (off + 1) = j - off by omega]
        · rw [if_neg hj, if_neg (by omega)]
    · cases h

theorem VRels.part {s : Sit} {cs r : List AV} {vs : List Value} {off n : Nat} (h : VRels s cs vs) (hp : Sy.part cs off n = some r) : VRels s r ((vs.drop off).take n) := by
  obtain ⟨h1, rfl⟩ := part_some hp
  have hl := h.length
  refine VRels.mk (by simp; omega) fun i a ha => ?_
  rw [nth_eq, List.getElem?_take] at ha
  split at ha
  · rename_i hi
    rw [List.getElem?_drop, ← nth_eq] at ha
    obtain ⟨v, hv, hr⟩ := h.nth ha
    exact ⟨v, by rw [List.getElem?_take, if_pos hi, List.getElem?_drop]; exact hv, hr⟩
  · cases ha
theorem VRels.putAt {s : Sit} {cs ds r : List AV} {vs us : List Value} {off : Nat} (h : VRels s cs vs) (h' : VRels s ds us) (hp : Sy.putAt cs off ds = some r)
    {xs : List Value} (hx : xs.length = vs.length) (hn : ∀ j, xs[j]? = if off ≤ j ∧ j < off + us.length then us[j - off]? else vs[j]?) : VRels s r xs := by
  obtain ⟨h1, h2, h3⟩ := putAt_some hp
  refine VRels.mk (by rw [hx, h2, h.length]) fun i a ha => ?_
  rw [nth_eq, h3 i] at ha
  rw [hn i, h'.length]
  split at ha
  · rename_i hi
    rw [if_pos hi]
    exact h'.nth (by rw [nth_eq]; exact ha)
  · rename_i hi
    rw [if_neg hi]
    exact h.nth (by rw [nth_eq]; exact ha)

theorem kEq_eq {a b : IntKind} (h : kEq a b = true) : a = b := by cases a <;> cases b <;> first | rfl | (simp [kEq] at h)
theorem kdEq_eq {a b : Kd} (h : kdEq a b = true) : a = b := by
  unfold kdEq at h
  split at h
  · rw [kEq_eq h]
  · rfl
  · cases h
theorem sigEq_eq : ∀ {a b : List Kd}, sigEq a b = true → a = b
  | [], [], _ => rfl
  | [], _ :: _, h => by simp [sigEq] at h
  | _ :: _, [], h => by simp [sigEq] at h
  | a :: l, b :: m, h => by
    simp only [sigEq] at h
    split at h
    · rename_i hk
      rw [kdEq_eq hk, sigEq_eq h]
    · cases h

theorem cellOf_rel {s : Sit} {k : Kd} {d : Unit → D} {v : Value} (h : DRel s k (d ()) v) : VRel s (cellOf k d) v := by
  generalize hd : d () = x at h
  cases h with
  | int k n => simp [cellOf, VRel, IX.v, hd, D.int]
  | bool b => simp [cellOf, VRel, BX.v, hd, D.bool]
  | nil sig a cap => simp only [cellOf, VRel, hd, D.rows]; exact .nil sig a cap
  | sl sig rows blk off cap val h1 h2 h3 h4 h5 h6 h7 => simp only [cellOf, VRel, hd, D.rows]; exact .sl sig rows blk off cap val h1 h2 h3 h4 h5 h6 h7
theorem dOf_rel {s : Sit} {k : Kd} {a : AV} {v : Value} (hk : kdOf a = some k) (h : VRel s a v) : DRel s k (dOf a) v := by
  unfold kdOf at hk
  split at hk
  · simp at hk; subst hk; simp only [VRel] at h; subst h; exact .int _ _
  · simp at hk; subst hk; simp only [VRel] at h; subst h; exact .bool _
  · cases hk
theorem dsOf_length : ∀ l : List AV, (dsOf l).length = l.length
  | [] => rfl
  | _ :: l => by simp [dsOf, dsOf_length l]
theorem dsOf_nth : ∀ {l : List AV} {j : Nat}, nth (dsOf l) j = (nth l j).map dOf
  | [], j => by simp [dsOf, nth]
  | a :: l, 0 => by simp [dsOf, nth]
  | a :: l, j + 1 => by simpa [dsOf, nth] using dsOf_nth (l := l) (j := j)
theorem kdsOf_nth : ∀ {l : List AV} {q : List Kd}, kdsOf l = some q → q.length = l.length ∧ ∀ j, nth q j = (nth l j).bind kdOf
  | [], q, h => by simp [kdsOf] at h; subst h; simp [nth]
  | a :: l, q, h => by
    simp only [kdsOf] at h
    split at h
    · rename_i k hk
      split at h
      · rename_i r hr
        simp at h; subst h
        obtain ⟨h1, h2⟩ := kdsOf_nth hr
        refine ⟨by simp [h1], fun j => ?_⟩
        cases j with
        | zero => simp [nth, hk]
        | succ j => simpa [nth] using h2 j
      · cases h
    · cases h
/-- cells that fit a signature n times are n rows -/
theorem fits_rel {s : Sit} {sig : List Kd} : ∀ (n : Nat) (cs : List AV) (vs : List Value), fits sig n cs = true → VRels s cs vs →
    vs.length = n * sig.length ∧ (rowsOf sig.length n cs).length = n ∧ DIn s sig (fun j => vs[j]?) (rowsOf sig.length n cs)
  | 0, [], vs, _, h => by
    simp [VRels] at h; subst h
    refine ⟨by simp, rfl, fun i r hr => by simp [rowsOf, nth] at hr, fun i j r k d hr => by simp [rowsOf, nth] at hr⟩
  | 0, _ :: _, _, h, _ => by simp [fits] at h
  | n + 1, cs, vs, h, hv => by
    simp only [fits, len_eq] at h
    split at h
    · rename_i r hr
      split at h
      · rename_i q hq
        split at h
        · rename_i hs
          split at h
          · rename_i rest hrest
            have := sigEq_eq hs; subst this
            obtain ⟨hd1, rfl⟩ := dropX_some hrest
            obtain ⟨hp1, rfl⟩ := part_some hr
            have hl := hv.length
            have hv2 : VRels s (cs.drop q.length) (vs.drop q.length) := by
              refine VRels.mk (by simp [hl]) fun i a ha => ?_
              rw [nth_eq, List.getElem?_drop, ← nth_eq] at ha
              obtain ⟨u, hu, hr⟩ := hv.nth ha
              exact ⟨u, by rw [List.getElem?_drop]; exact hu, hr⟩
            obtain ⟨h1, h2, h3, h4⟩ := fits_rel n _ _ h hv2
            obtain ⟨hk1, hk2⟩ := kdsOf_nth hq
            have hql : q.length ≤ cs.length := hd1
            simp only [List.drop_zero] at hk2 hk1
            refine ⟨?_, by simp [rowsOf, h2], ?_, ?_⟩
            · simp at h1; rw [Nat.succ_mul]; omega
            · intro i r hir
              cases i with
              | zero => simp only [rowsOf, nth, Option.some.injEq] at hir; subst hir; rw [dsOf_length, ← hk1]
              | succ i => exact h3 i r (by simpa [rowsOf, nth] using hir)
            · intro i j r k d hir hj hd
              cases i with
              | zero =>
                simp only [rowsOf, nth, Option.some.injEq] at hir; subst hir
                rw [dsOf_nth] at hd
                rw [hk2 j] at hj
                cases ha : nth (cs.take q.length) j with
                | none => rw [ha] at hd; simp at hd
                | some a =>
                  rw [ha] at hd hj
                  simp at hd hj
                  have hlt : j < q.length := by
                    have := nth_some_lt ha
                    simp at this; omega
                  have ha' : nth cs j = some a := by
                    rw [nth_eq, List.getElem?_take, if_pos hlt, ← nth_eq] at ha; exact ha
                  obtain ⟨v, hv', hr'⟩ := hv.nth ha'
                  exact ⟨v, by simpa using hv', hd ▸ dOf_rel hj hr'⟩
              | succ i =>
                obtain ⟨v, hv', hr'⟩ := h4 i j r k d (by simpa [rowsOf, nth] using hir) hj hd
                refine ⟨v, ?_, hr'⟩
                have hv' : (List.drop q.length vs)[i * q.length + j]? = some v := hv'
                rw [List.getElem?_drop] at hv'
                show vs[(i + 1) * q.length + j]? = some v
                rw [← hv']
                congr 1
                rw [Nat.succ_mul]; omega
          · cases h
        · cases h
      · cases h
    · cases h
theorem cellsOf_rel {s : Sit} {d : Unit → List D} : ∀ (sig : List Kd) (j : Nat) (vs : List Value), vs.length = sig.length →
    (∀ i k, nth sig i = some k → ∃ v, vs[i]? = some v ∧ DRel s k ((d ()).getD (j + i) (.i 0)) v) → VRels s (cellsOf d sig j) vs
  | [], j, vs, h, _ => by simp [cellsOf, VRels]; simpa using h
  | k :: sig, j, [], h, _ => by simp at h
  | k :: sig, j, v :: vs, h, hn => by
    simp only [cellsOf, VRels]
    refine ⟨v, vs, rfl, ?_, cellsOf_rel sig (j + 1) vs (by simpa using h) fun i q hq => ?_⟩
    · obtain ⟨u, hu, hr⟩ := hn 0 k rfl
      simp at hu; subst hu
      exact cellOf_rel (by simpa using hr)
    · obtain ⟨u, hu, hr⟩ := hn (i + 1) q (by simpa [nth] using hq)
      exact ⟨u, by simpa using hu, by rw [show j + 1 + i = j + (i + 1) by omega]; exact hr⟩
theorem getD_of_nth {α : Type} {l : List α} {i : Nat} {a d : α} (h : nth l i = some a) : l.getD i d = a := by
  rw [nth_eq] at h; simp [List.getD, h]
theorem nth_of_lt {α : Type} {l : List α} {i : Nat} (h : i < l.length) : ∃ a, nth l i = some a := by
  rw [nth_eq]; exact ⟨l[i], List.getElem?_eq_getElem h⟩
/-- one row's cells, as they stand in a list of values -/
theorem row_rel {s : Sit} {sig : List Kd} {g : Nat → Option Value} {rows : List (List D)} (h : DIn s sig g rows) {i : Nat} (hi : i < rows.length) (l : Unit → List (List D)) (hl : l () = rows)
    {vs : List Value} (hv : vs.length = sig.length) (hg : ∀ j, j < sig.length → vs[j]? = g (i * sig.length + j)) (ix : Nat) (hix : ix = i) : VRels s (cellsOf (fun _ => (l ()).getD ix []) sig 0) vs := by
  subst hix
  obtain ⟨r, hr⟩ := nth_of_lt hi
  refine cellsOf_rel sig 0 vs hv fun j k hk => ?_
  have hrl := h.1 _ r hr
  have hjl := nth_some_lt hk
  obtain ⟨d, hd⟩ := nth_of_lt (l := r) (i := j) (by omega)
  obtain ⟨v, hv1, hv2⟩ := h.2 _ j r k d hr hk hd
  refine ⟨v, by rw [hg j hjl]; exact hv1, ?_⟩
  simp only [hl, Nat.zero_add]
  rw [getD_of_nth hr, getD_of_nth hd]
  exact hv2
theorem spread_rel {s : Sit} {sig : List Kd} {l : Unit → List (List D)} {us : List Value} (h : DIn s sig (fun n => us[n]?) (l ())) (hu : us.length = (l ()).length * sig.length) :
    ∀ (n j : Nat), j + n = (l ()).length → VRels s (spread sig l n j) (us.drop (j * sig.length))
  | 0, j, hj => by
    simp only [spread, VRels]
    exact List.drop_eq_nil_of_le (by rw [hu, ← hj]; simp)
  | n + 1, j, hj => by
    have ih := spread_rel h hu n (j + 1) (by omega)
    have hlen : us.length = j * sig.length + (n * sig.length + sig.length) := by rw [hu, ← hj, Nat.add_mul, Nat.succ_mul]
    have hsplit : us.drop (j * sig.length) = (us.drop (j * sig.length)).take sig.length ++ us.drop ((j + 1) * sig.length) := by
      rw [Nat.succ_mul, ← List.drop_drop]
      exact (List.take_append_drop _ _).symm
    rw [hsplit]
    simp only [spread]
    refine VRels.append (row_rel h (i := j) (by omega) l rfl (by simp; omega) (fun k hk => ?_) j rfl) ih
    rw [List.getElem?_take, if_pos hk, List.getElem?_drop]

/-! ### a value's cells -/
theorem scal_one {s : Sit} {a : AV} {v : Value} (h : scal a = true) (hr : VRel s a v) : v.oneCell' = true := by
  cases a <;> simp only [scal] at h <;> try (cases h; done)
  all_goals simp only [VRel] at hr
  case bool => subst hr; rfl
  case int => subst hr; rfl
  case nilp => subst hr; rfl
  case ptr => obtain ⟨_, _, rfl⟩ := hr; rfl
  case nils => subst hr; rfl
  case sl => obtain ⟨_, _, rfl, _⟩ := hr; rfl
  case ro sig l => generalize l () = rows at hr; cases hr <;> rfl
  case nilf => subst hr; rfl
  case func => obtain ⟨_, _, rfl, _⟩ := hr; rfl
theorem allScal_one {s : Sit} : ∀ {l : List AV} {vs : List Value}, allScal l = true → VRels s l vs → ∀ x ∈ vs, x.oneCell' = true
  | [], vs, _, h => by simp [VRels] at h; simp [h]
  | a :: l, vs, hs, h => by
    simp only [VRels] at h
    obtain ⟨v, r, rfl, h1, h2⟩ := h
    simp only [allScal] at hs
    split at hs
    · rename_i ha
      intro x hx
      rcases List.mem_cons.1 hx with rfl | hx
      · exact scal_one ha h1
      · exact allScal_one hs h2 x hx
    · cases hs
theorem cells_of_one {v : Value} (h : v.oneCell' = true) : v.cells = #[v] := by cases v <;> first | rfl | (simp [Value.oneCell'] at h)
theorem cellOf_scal (k : Kd) (d : Unit → D) : scal (cellOf k d) = true := by cases k <;> rfl
theorem cellsOf_scal (d : Unit → List D) : ∀ (sig : List Kd) (j : Nat), allScal (cellsOf d sig j) = true
  | [], j => rfl
  | k :: sig, j => by simp [cellsOf, allScal, cellOf_scal, cellsOf_scal d sig (j + 1)]
theorem allScal_append : ∀ {l m : List AV}, allScal l = true → allScal m = true → allScal (l ++ m) = true
  | [], m, _, h => h
  | a :: l, m, h, h' => by
    simp only [allScal, List.cons_append] at h ⊢
    split at h
    · exact allScal_append h h'
    · cases h
theorem spread_scal (sig : List Kd) (l : Unit → List (List D)) : ∀ (n j : Nat), allScal (spread sig l n j) = true
  | 0, _ => rfl
  | n + 1, j => allScal_append (cellsOf_scal _ _ _) (spread_scal sig l n (j + 1))
theorem cellsV_sound {T : Tab} {t : Nat} {v : AV} {K : List AV → Prop} {s : Sit} {u : Value} (h : cellsV T t v K) (hr : VRel s v u) :
    ∃ d cs, T t = some d ∧ K cs ∧ VRels s cs u.cells.toList ∧ cs.length = d.size ∧ (∀ x ∈ u.cells.toList, x.oneCell' = true) := by
  unfold cellsV ti at h
  split at h
  · rename_i d hd
    split at h
    · rename_i cs
      split at h
      · rename_i hl
        split at h
        · split at h
          · rename_i ha
            simp only [VRel] at hr
            obtain ⟨a, rfl, hr⟩ := hr
            refine ⟨d, cs, hd, h, hr, ?_, allScal_one ha hr⟩
            have := Nat.eq_of_beq_eq_true hl
            rw [len_eq] at this; exact this
          · exact h.elim
        · exact h.elim
      · exact h.elim
    · rename_i sig l
      split at h
      · rename_i n e hk
        split at h
        · rename_i hl
          cases h with
          | mk hn h =>
            simp only [VRel] at hr
            obtain ⟨a, rfl, hs, h0, hr⟩ := hr
            have hsz := Nat.eq_of_beq_eq_true hl
            rw [len_eq] at hsz
            have hrel := spread_rel (us := a.toList) (by simpa using hr) (by simpa using hs) n 0 (by omega)
            simp only [Nat.zero_mul, List.drop_zero] at hrel
            refine ⟨d, _, hd, h, hrel, ?_, allScal_one (spread_scal _ _ _ _) hrel⟩
            have := hrel.length
            rw [← this, Array.length_toList, hs, hn, hsz]
        · exact h.elim
      · exact h.elim
    · split at h
      · rename_i hs
        split at h
        · rename_i h1
          split at h
          · exact h.elim
          · have hc := scal_one hs hr
            rw [cells_of_one hc]
            refine ⟨d, _, hd, h, by simp [VRels]; exact hr, ?_, by simpa using hc⟩
            simpa using (Nat.eq_of_beq_eq_true h1).symm
        · exact h.elim
      · exact h.elim
  · exact h.elim
theorem asRows_sound {sig : List Kd} {n : Nat} {v : AV} {K : (Unit → List (List D)) → Prop} {s : Sit} {u : Value} (h : asRows sig n v K) (hr : VRel s v u) :
    ∃ l a, K l ∧ u = .agg a ∧ a.size = n * sig.length ∧ (l ()).length = n ∧ DIn s sig (fun j => a[j]?) (l ()) := by
  unfold asRows at h
  split at h
  · rename_i cs
    split at h
    · rename_i hf
      simp only [VRel] at hr
      obtain ⟨a, rfl, hr⟩ := hr
      obtain ⟨h1, h2, h3⟩ := fits_rel n cs _ hf hr
      simp only [len_eq] at h
      exact ⟨_, a, h, rfl, by simpa using h1, h2, by simpa using h3⟩
    · exact h.elim
  · rename_i sg l
    split at h
    · rename_i hs
      cases h with
      | mk hn h =>
        have := sigEq_eq hs; subst this
        simp only [VRel] at hr
        obtain ⟨a, rfl, hsz, h0, hr⟩ := hr
        exact ⟨l, a, h, rfl, by rw [hsz, hn], hn, hr⟩
    · exact h.elim
  · exact h.elim
end Go.Sy
