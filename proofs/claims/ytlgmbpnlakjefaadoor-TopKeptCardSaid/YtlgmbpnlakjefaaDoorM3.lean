/- Put together by a program of this work out of its texts SyF, SyG, SyH, SyI. -/
import Derived.Test.YtlgmbpnlakjefaaDoorM2
import Derived.Laws.Slices
section
/- Soundness: lists, cells and rows. -/
namespace Go.Sy
set_option linter.unusedSimpArgs false
set_option linter.unusedVariables false

theorem takeX_some {α : Type} : ∀ {n : Nat} {l r : List α}, takeX n l = some r → n ≤ l.length ∧ r = l.take n
  | 0, l, r, h => by simp [takeX] at h; simp [← h]
  | n + 1, [], r, h => by simp [takeX] at h
  | n + 1, a :: l, r, h => by
    simp only [takeX] at h
    split at h
    · rename_i r' hr
      obtain ⟨h1, rfl⟩ := takeX_some hr
      simp at h; subst h
      exact ⟨by simp; omega, rfl⟩
    · cases h
theorem dropX_some {α : Type} : ∀ {n : Nat} {l r : List α}, dropX n l = some r → n ≤ l.length ∧ r = l.drop n
  | 0, l, r, h => by simp [dropX] at h; simp [h]
  | n + 1, [], r, h => by simp [dropX] at h
  | n + 1, a :: l, r, h => by
    simp only [dropX] at h
    obtain ⟨h1, h2⟩ := dropX_some h
    exact ⟨by simp; omega, by simpa using h2⟩
theorem part_some {α : Type} {l r : List α} {off n : Nat} (h : Sy.part l off n = some r) : off + n ≤ l.length ∧ r = (l.drop off).take n := by
  unfold Sy.part at h
  split at h
  · rename_i q hq
    obtain ⟨h1, rfl⟩ := dropX_some hq
    obtain ⟨h2, h3⟩ := takeX_some h
    refine ⟨?_, h3⟩
    simp at h2; omega
  · cases h
theorem putAt_some {α : Type} : ∀ {l : List α} {off : Nat} {bs r : List α}, putAt l off bs = some r →
    off + bs.length ≤ l.length ∧ r.length = l.length ∧ ∀ j, r[j]? = if off ≤ j ∧ j < off + bs.length then bs[j - off]? else l[j]?
  | l, 0, [], r, h => by
    simp only [putAt, Option.some.injEq] at h; subst h
    refine ⟨by simp, rfl, fun j => ?_⟩
    rw [if_neg (by simp)]
  | [], 0, b :: bs, r, h => by simp [putAt] at h
  | a :: l, 0, b :: bs, r, h => by
    simp only [putAt] at h
    split at h
    · rename_i q hq
      obtain ⟨h1, h2, h3⟩ := putAt_some hq
      simp at h; subst h
      refine ⟨by simp at *; omega, by simp [h2], fun j => ?_⟩
      cases j with
      | zero => simp
      | succ j =>
        have := h3 j
        simp only [Nat.zero_le, true_and, Nat.zero_add, Nat.sub_zero, List.length_cons, List.getElem?_cons_succ] at *
        rw [this]
        by_cases hj : j < bs.length
        · rw [if_pos hj, if_pos (by omega)]
        · rw [if_neg hj, if_neg (by omega)]
    · cases h
  | [], off + 1, bs, r, h => by simp [putAt] at h
  | a :: l, off + 1, bs, r, h => by
    simp only [putAt] at h
    split at h
    · rename_i q hq
      obtain ⟨h1, h2, h3⟩ := putAt_some hq
      simp at h; subst h
      refine ⟨by simp at *; omega, by simp [h2], fun j => ?_⟩
      cases j with
      | zero => simp
      | succ j =>
        have := h3 j
        simp only [List.getElem?_cons_succ] at *
        rw [this]
        by_cases hj : off ≤ j ∧ j < off + bs.length
        · rw [if_pos hj, if_pos (by omega), show j + 1 - (off + 1) = j - off by omega]
        · rw [if_neg hj, if_neg (by omega)]
    · cases h

theorem VRels.part {s : Sit} {cs r : List AV} {vs : List Value} {off n : Nat} (h : VRels s cs vs) (hp : Sy.part cs off n = some r) : VRels s r ((vs.drop off).take n) := by
  obtain ⟨h1, rfl⟩ := part_some hp
  have hl := h.length
  refine VRels.mk (by simp; omega) fun i a ha => ?_
  rw [nth_eq, List.getElem?_take] at ha
  split at ha
  · rename_i hi
    rw [List.getElem?_drop, ← nth_eq] at ha
    obtain ⟨v, hv, hr⟩ := h.nth ha
    exact ⟨v, by rw [List.getElem?_take, if_pos hi, List.getElem?_drop]; exact hv, hr⟩
  · cases ha
theorem VRels.putAt {s : Sit} {cs ds r : List AV} {vs us : List Value} {off : Nat} (h : VRels s cs vs) (h' : VRels s ds us) (hp : Sy.putAt cs off ds = some r)
    {xs : List Value} (hx : xs.length = vs.length) (hn : ∀ j, xs[j]? = if off ≤ j ∧ j < off + us.length then us[j - off]? else vs[j]?) : VRels s r xs := by
  obtain ⟨h1, h2, h3⟩ := putAt_some hp
  refine VRels.mk (by rw [hx, h2, h.length]) fun i a ha => ?_
  rw [nth_eq, h3 i] at ha
  rw [hn i, h'.length]
  split at ha
  · rename_i hi
    rw [if_pos hi]
    exact h'.nth (by rw [nth_eq]; exact ha)
  · rename_i hi
    rw [if_neg hi]
    exact h.nth (by rw [nth_eq]; exact ha)

theorem kEq_eq {a b : IntKind} (h : kEq a b = true) : a = b := by cases a <;> cases b <;> first | rfl | (simp [kEq] at h)
theorem kdEq_eq {a b : Kd} (h : kdEq a b = true) : a = b := by
  unfold kdEq at h
  split at h
  · rw [kEq_eq h]
  · rfl
  · cases h
theorem sigEq_eq : ∀ {a b : List Kd}, sigEq a b = true → a = b
  | [], [], _ => rfl
  | [], _ :: _, h => by simp [sigEq] at h
  | _ :: _, [], h => by simp [sigEq] at h
  | a :: l, b :: m, h => by
    simp only [sigEq] at h
    split at h
    · rename_i hk
      rw [kdEq_eq hk, sigEq_eq h]
    · cases h

theorem cellOf_rel {s : Sit} {k : Kd} {d : Unit → D} {v : Value} (h : DRel s k (d ()) v) : VRel s (cellOf k d) v := by
  generalize hd : d () = x at h
  cases h with
  | int k n => simp [cellOf, VRel, IX.v, hd, D.int]
  | bool b => simp [cellOf, VRel, BX.v, hd, D.bool]
  | nil sig a cap h0 h1 => simp only [cellOf, VRel, hd, D.rows]; exact .nil sig a cap h0 h1
  | sl sig rows blk off cap val h1 h2 h3 h4 h5 h6 h7 h8 => simp only [cellOf, VRel, hd, D.rows]; exact .sl sig rows blk off cap val h1 h2 h3 h4 h5 h6 h7 h8
theorem dOf_rel {s : Sit} {k : Kd} {a : AV} {v : Value} (hk : kdOf a = some k) (h : VRel s a v) : DRel s k (dOf a) v := by
  unfold kdOf at hk
  split at hk
  · simp at hk; subst hk; simp only [VRel] at h; subst h; exact .int _ _
  · simp at hk; subst hk; simp only [VRel] at h; subst h; exact .bool _
  · cases hk
theorem dsOf_length : ∀ l : List AV, (dsOf l).length = l.length
  | [] => rfl
  | _ :: l => by simp [dsOf, dsOf_length l]
theorem dsOf_nth : ∀ {l : List AV} {j : Nat}, nth (dsOf l) j = (nth l j).map dOf
  | [], j => by simp [dsOf, nth]
  | a :: l, 0 => by simp [dsOf, nth]
  | a :: l, j + 1 => by simpa [dsOf, nth] using dsOf_nth (l := l) (j := j)
theorem kdsOf_nth : ∀ {l : List AV} {q : List Kd}, kdsOf l = some q → q.length = l.length ∧ ∀ j, nth q j = (nth l j).bind kdOf
  | [], q, h => by simp [kdsOf] at h; subst h; simp [nth]
  | a :: l, q, h => by
    simp only [kdsOf] at h
    split at h
    · rename_i k hk
      split at h
      · rename_i r hr
        simp at h; subst h
        obtain ⟨h1, h2⟩ := kdsOf_nth hr
        refine ⟨by simp [h1], fun j => ?_⟩
        cases j with
        | zero => simp [nth, hk]
        | succ j => simpa [nth] using h2 j
      · cases h
    · cases h
/-- cells that fit a signature n times are n rows -/
theorem fits_rel {s : Sit} {sig : List Kd} : ∀ (n : Nat) (cs : List AV) (vs : List Value), fits sig n cs = true → VRels s cs vs →
    vs.length = n * sig.length ∧ (rowsOf sig.length n cs).length = n ∧ DIn s sig (fun j => vs[j]?) (rowsOf sig.length n cs)
  | 0, [], vs, _, h => by
    simp [VRels] at h; subst h
    refine ⟨by simp, rfl, fun i r hr => by simp [rowsOf, nth] at hr, fun i j r k d hr => by simp [rowsOf, nth] at hr⟩
  | 0, _ :: _, _, h, _ => by simp [fits] at h
  | n + 1, cs, vs, h, hv => by
    simp only [fits, len_eq] at h
    split at h
    · rename_i r hr
      split at h
      · rename_i q hq
        split at h
        · rename_i hs
          split at h
          · rename_i rest hrest
            have := sigEq_eq hs; subst this
            obtain ⟨hd1, rfl⟩ := dropX_some hrest
            obtain ⟨hp1, rfl⟩ := part_some hr
            have hl := hv.length
            have hv2 : VRels s (cs.drop q.length) (vs.drop q.length) := by
              refine VRels.mk (by simp [hl]) fun i a ha => ?_
              rw [nth_eq, List.getElem?_drop, ← nth_eq] at ha
              obtain ⟨u, hu, hr⟩ := hv.nth ha
              exact ⟨u, by rw [List.getElem?_drop]; exact hu, hr⟩
            obtain ⟨h1, h2, h3, h4⟩ := fits_rel n _ _ h hv2
            obtain ⟨hk1, hk2⟩ := kdsOf_nth hq
            have hql : q.length ≤ cs.length := hd1
            simp only [List.drop_zero] at hk2 hk1
            refine ⟨?_, by simp [rowsOf, h2], ?_, ?_⟩
            · simp at h1; rw [Nat.succ_mul]; omega
            · intro i r hir
              cases i with
              | zero => simp only [rowsOf, nth, Option.some.injEq] at hir; subst hir; rw [dsOf_length, ← hk1]
              | succ i => exact h3 i r (by simpa [rowsOf, nth] using hir)
            · intro i j r k d hir hj hd
              cases i with
              | zero =>
                simp only [rowsOf, nth, Option.some.injEq] at hir; subst hir
                rw [dsOf_nth] at hd
                rw [hk2 j] at hj
                cases ha : nth (cs.take q.length) j with
                | none => rw [ha] at hd; simp at hd
                | some a =>
                  rw [ha] at hd hj
                  simp at hd hj
                  have hlt : j < q.length := by
                    have := nth_some_lt ha
                    simp at this; omega
                  have ha' : nth cs j = some a := by
                    rw [nth_eq, List.getElem?_take, if_pos hlt, ← nth_eq] at ha; exact ha
                  obtain ⟨v, hv', hr'⟩ := hv.nth ha'
                  exact ⟨v, by simpa using hv', hd ▸ dOf_rel hj hr'⟩
              | succ i =>
                obtain ⟨v, hv', hr'⟩ := h4 i j r k d (by simpa [rowsOf, nth] using hir) hj hd
                refine ⟨v, ?_, hr'⟩
                have hv' : (List.drop q.length vs)[i * q.length + j]? = some v := hv'
                rw [List.getElem?_drop] at hv'
                show vs[(i + 1) * q.length + j]? = some v
                rw [← hv']
                congr 1
                rw [Nat.succ_mul]; omega
          · cases h
        · cases h
      · cases h
    · cases h
theorem cellsOf_rel {s : Sit} {d : Unit → List D} : ∀ (sig : List Kd) (j : Nat) (vs : List Value), vs.length = sig.length →
    (∀ i k, nth sig i = some k → ∃ v, vs[i]? = some v ∧ DRel s k ((d ()).getD (j + i) (.i 0)) v) → VRels s (cellsOf d sig j) vs
  | [], j, vs, h, _ => by simp [cellsOf, VRels]; simpa using h
  | k :: sig, j, [], h, _ => by simp at h
  | k :: sig, j, v :: vs, h, hn => by
    simp only [cellsOf, VRels]
    refine ⟨v, vs, rfl, ?_, cellsOf_rel sig (j + 1) vs (by simpa using h) fun i q hq => ?_⟩
    · obtain ⟨u, hu, hr⟩ := hn 0 k rfl
      simp at hu; subst hu
      exact cellOf_rel (by simpa using hr)
    · obtain ⟨u, hu, hr⟩ := hn (i + 1) q (by simpa [nth] using hq)
      exact ⟨u, by simpa using hu, by rw [show j + 1 + i = j + (i + 1) by omega]; exact hr⟩
theorem getD_of_nth {α : Type} {l : List α} {i : Nat} {a d : α} (h : nth l i = some a) : l.getD i d = a := by
  rw [nth_eq] at h; simp [List.getD, h]
theorem nth_of_lt {α : Type} {l : List α} {i : Nat} (h : i < l.length) : ∃ a, nth l i = some a := by
  rw [nth_eq]; exact ⟨l[i], List.getElem?_eq_getElem h⟩
/-- one row's cells, as they stand in a list of values -/
theorem row_rel {s : Sit} {sig : List Kd} {g : Nat → Option Value} {rows : List (List D)} (h : DIn s sig g rows) {i : Nat} (hi : i < rows.length) (l : Unit → List (List D)) (hl : l () = rows)
    {vs : List Value} (hv : vs.length = sig.length) (hg : ∀ j, j < sig.length → vs[j]? = g (i * sig.length + j)) (ix : Nat) (hix : ix = i) : VRels s (cellsOf (fun _ => (l ()).getD ix []) sig 0) vs := by
  subst hix
  obtain ⟨r, hr⟩ := nth_of_lt hi
  refine cellsOf_rel sig 0 vs hv fun j k hk => ?_
  have hrl := h.1 _ r hr
  have hjl := nth_some_lt hk
  obtain ⟨d, hd⟩ := nth_of_lt (l := r) (i := j) (by omega)
  obtain ⟨v, hv1, hv2⟩ := h.2 _ j r k d hr hk hd
  refine ⟨v, by rw [hg j hjl]; exact hv1, ?_⟩
  simp only [hl, Nat.zero_add]
  rw [getD_of_nth hr, getD_of_nth hd]
  exact hv2
theorem spread_rel {s : Sit} {sig : List Kd} {l : Unit → List (List D)} {us : List Value} (h : DIn s sig (fun n => us[n]?) (l ())) (hu : us.length = (l ()).length * sig.length) :
    ∀ (n j : Nat), j + n = (l ()).length → VRels s (spread sig l n j) (us.drop (j * sig.length))
  | 0, j, hj => by
    simp only [spread, VRels]
    exact List.drop_eq_nil_of_le (by rw [hu, ← hj]; simp)
  | n + 1, j, hj => by
    have ih := spread_rel h hu n (j + 1) (by omega)
    have hlen : us.length = j * sig.length + (n * sig.length + sig.length) := by rw [hu, ← hj, Nat.add_mul, Nat.succ_mul]
    have hsplit : us.drop (j * sig.length) = (us.drop (j * sig.length)).take sig.length ++ us.drop ((j + 1) * sig.length) := by
      rw [Nat.succ_mul, ← List.drop_drop]
      exact (List.take_append_drop _ _).symm
    rw [hsplit]
    simp only [spread]
    refine VRels.append (row_rel h (i := j) (by omega) l rfl (by simp; omega) (fun k hk => ?_) j rfl) ih
    rw [List.getElem?_take, if_pos hk, List.getElem?_drop]

/-! ### a value's cells -/
theorem scal_one {s : Sit} {a : AV} {v : Value} (h : scal a = true) (hr : VRel s a v) : v.oneCell' = true := by
  cases a <;> simp only [scal] at h <;> try (cases h; done)
  all_goals simp only [VRel] at hr
  case bool => subst hr; rfl
  case int => subst hr; rfl
  case nilp => subst hr; rfl
  case ptr => obtain ⟨_, _, rfl⟩ := hr; rfl
  case nils => subst hr; rfl
  case sl => obtain ⟨_, _, rfl, _⟩ := hr; rfl
  case ro sig l => generalize l () = rows at hr; cases hr <;> rfl
  case nilf => subst hr; rfl
  case func => obtain ⟨_, _, rfl, _⟩ := hr; rfl
  case gp => split at hr; (subst hr; rfl); exact hr.elim
theorem allScal_one {s : Sit} : ∀ {l : List AV} {vs : List Value}, allScal l = true → VRels s l vs → ∀ x ∈ vs, x.oneCell' = true
  | [], vs, _, h => by simp [VRels] at h; simp [h]
  | a :: l, vs, hs, h => by
    simp only [VRels] at h
    obtain ⟨v, r, rfl, h1, h2⟩ := h
    simp only [allScal] at hs
    split at hs
    · rename_i ha
      intro x hx
      rcases List.mem_cons.1 hx with rfl | hx
      · exact scal_one ha h1
      · exact allScal_one hs h2 x hx
    · cases hs
theorem cells_of_one {v : Value} (h : v.oneCell' = true) : v.cells = #[v] := by cases v <;> first | rfl | (simp [Value.oneCell'] at h)
theorem cellOf_scal (k : Kd) (d : Unit → D) : scal (cellOf k d) = true := by cases k <;> rfl
theorem cellsOf_scal (d : Unit → List D) : ∀ (sig : List Kd) (j : Nat), allScal (cellsOf d sig j) = true
  | [], j => rfl
  | k :: sig, j => by simp [cellsOf, allScal, cellOf_scal, cellsOf_scal d sig (j + 1)]
theorem allScal_append : ∀ {l m : List AV}, allScal l = true → allScal m = true → allScal (l ++ m) = true
  | [], m, _, h => h
  | a :: l, m, h, h' => by
    simp only [allScal, List.cons_append] at h ⊢
    split at h
    · exact allScal_append h h'
    · cases h
theorem spread_scal (sig : List Kd) (l : Unit → List (List D)) : ∀ (n j : Nat), allScal (spread sig l n j) = true
  | 0, _ => rfl
  | n + 1, j => allScal_append (cellsOf_scal _ _ _) (spread_scal sig l n (j + 1))
theorem cellsV_sound {T : Tab} {t : Nat} {v : AV} {K : List AV → Prop} {s : Sit} {u : Value} (h : cellsV T t v K) (hr : VRel s v u) :
    ∃ d cs, T t = some d ∧ K cs ∧ VRels s cs u.cells.toList ∧ cs.length = d.size ∧ (∀ x ∈ u.cells.toList, x.oneCell' = true) := by
  unfold cellsV ti at h
  split at h
  · rename_i d hd
    split at h
    · rename_i cs
      split at h
      · rename_i hl
        split at h
        · split at h
          · rename_i ha
            simp only [VRel] at hr
            obtain ⟨a, rfl, hr⟩ := hr
            refine ⟨d, cs, hd, h, hr, ?_, allScal_one ha hr⟩
            have := Nat.eq_of_beq_eq_true hl
            rw [len_eq] at this; exact this
          · exact h.elim
        · exact h.elim
      · exact h.elim
    · rename_i sig l
      split at h
      · rename_i n e hk
        split at h
        · rename_i hl
          cases h with
          | mk hn h =>
            simp only [VRel] at hr
            obtain ⟨a, rfl, hs, h0, hr⟩ := hr
            have hsz := Nat.eq_of_beq_eq_true hl
            rw [len_eq] at hsz
            have hrel := spread_rel (us := a.toList) (by simpa using hr) (by simpa using hs) n 0 (by omega)
            simp only [Nat.zero_mul, List.drop_zero] at hrel
            refine ⟨d, _, hd, h, hrel, ?_, allScal_one (spread_scal _ _ _ _) hrel⟩
            have := hrel.length
            rw [← this, Array.length_toList, hs, hn, hsz]
        · exact h.elim
      · exact h.elim
    · split at h
      · rename_i hs
        split at h
        · rename_i h1
          split at h
          · exact h.elim
          · have hc := scal_one hs hr
            rw [cells_of_one hc]
            refine ⟨d, _, hd, h, by simp [VRels]; exact hr, ?_, by simpa using hc⟩
            simpa using (Nat.eq_of_beq_eq_true h1).symm
        · exact h.elim
      · exact h.elim
  · exact h.elim
theorem asRows_sound {sig : List Kd} {n : Nat} {v : AV} {K : (Unit → List (List D)) → Prop} {s : Sit} {u : Value} (h : asRows sig n v K) (hr : VRel s v u) :
    ∃ l a, K l ∧ u = .agg a ∧ a.size = n * sig.length ∧ (l ()).length = n ∧ DIn s sig (fun j => a[j]?) (l ()) := by
  unfold asRows at h
  split at h
  · rename_i cs
    split at h
    · rename_i hf
      simp only [VRel] at hr
      obtain ⟨a, rfl, hr⟩ := hr
      obtain ⟨h1, h2, h3⟩ := fits_rel n cs _ hf hr
      simp only [len_eq] at h
      exact ⟨_, a, h, rfl, by simpa using h1, h2, by simpa using h3⟩
    · exact h.elim
  · rename_i sg l
    split at h
    · rename_i hs
      cases h with
      | mk hn h =>
        have := sigEq_eq hs; subst this
        simp only [VRel] at hr
        obtain ⟨a, rfl, hsz, h0, hr⟩ := hr
        exact ⟨l, a, h, rfl, by rw [hsz, hn], hn, hr⟩
    · exact h.elim
  · exact h.elim
end Go.Sy
end

section
/- Soundness: an operation that neither reads nor changes memory. -/
namespace Go.Sy
set_option linter.unusedSimpArgs false
set_option linter.unusedVariables false
set_option linter.unusedSectionVars false

theorem nAdd_v (a b : NX) : (nAdd a b).v = a.v + b.v := by
  unfold nAdd
  split
  · simp [NX.v, nadd, nsub, nmul]
  · split <;> simp [NX.v, nadd, nsub, nmul]
  · split <;> simp [NX.v, nadd, nsub, nmul]
theorem nMul_v (a : NX) (e : Nat) : (nMul a e).v = a.v * e := by
  unfold nMul
  split
  · simp
  · split <;> simp [NX.v, nadd, nsub, nmul]
theorem nSub_v (a b : NX) : (nSub a b).v = a.v - b.v := by
  unfold nSub
  split
  · simp [NX.v, nadd, nsub, nmul]
  · split <;> simp [NX.v, nadd, nsub, nmul]
  · simp [NX.v, nadd, nsub, nmul]
theorem natOf_v (a : IX) : (natOf a).v = a.v.toNat := by cases a <;> rfl
theorem ofNat_v (a : NX) : (ofNat a).v = (a.v : Int) := by cases a <;> rfl
theorem leN_ok {a b : NX} {K : Unit → Prop} (h : leN a b K) : a.v ≤ b.v ∧ K () := by
  unfold leN at h
  split at h
  · split at h
    · rename_i hz
      exact ⟨by rw [Nat.eq_of_beq_eq_true hz]; simp [NX.v], h⟩
    · split at h
      · split at h
        · rename_i hb; exact ⟨by simpa [NX.v] using Nat.le_of_ble_eq_true hb, h⟩
        · exact h.elim
      · cases h with | mk h1 h2 => exact ⟨h1, h2⟩
  · cases h with | mk h1 h2 => exact ⟨h1, h2⟩
theorem inN_ok {i : IX} {n : NX} {K : Unit → Prop} (h : inN i n K) : 0 ≤ i.v ∧ i.v < (n.v : Int) ∧ K () := by
  unfold inN at h
  split at h
  · split at h
    · split at h
      · rename_i hb
        split at h
        · rename_i hc
          have h0 := of_decide_eq_true hb
          have h1 := Nat.le_of_ble_eq_true hc
          simp only [IX.v, NX.v]
          exact ⟨h0, by omega, h⟩
        · exact h.elim
      · exact h.elim
    · cases h with | mk h1 h2 => exact ⟨h1.1, h1.2, h2⟩
  · cases h with | mk h1 h2 => exact ⟨h1.1, h1.2, h2⟩
theorem brB_ok {b : BX} {K L : Unit → Prop} (h : brB b K L) : (b.v = true → K ()) ∧ (b.v = false → L ()) := by
  unfold brB at h
  split at h
  · simp [BX.v, h]
  · simp [BX.v, h]
  · cases h with | mk h1 h2 => exact ⟨h1, h2⟩

def PureOk (P : Program) (s : Sit) (x : Sem Next) (K : AV → Prop) : Prop := ∃ av v, (∀ w, x.run P w = .ok (.value v) w) ∧ VRel s av v ∧ K av
/-- of a value's reckoning, whatever the world -/
def ValOk (P : Program) (s : Sit) (x : Sem Value) (K : AV → Prop) : Prop := ∃ av v, (∀ w, x.run P w = .ok v w) ∧ VRel s av v ∧ K av
theorem ValOk.pure {P : Program} {s : Sit} {x : Sem Value} {K : AV → Prop} (h : ValOk P s x K) : PureOk P s (do Pure.pure (Next.value (← x))) K := by
  obtain ⟨av, v, h1, h2, h3⟩ := h
  exact ⟨av, v, fun w => by simp [h1 w], h2, h3⟩
theorem Gets.ok {P : Program} {s : Sit} {x : Sem Value} {K : AV → Prop} (h : Gets P x K) : ValOk P s x K :=
  let ⟨av, v, h1, h2, h3⟩ := h; ⟨av, v, h1, h2 s, h3⟩

theorem run_equalIn_bool {P : Program} {t : TypeId} (hu : P.underlying t = some .bool) (d : Nat) (a b : Bool) (w : World) : (Op.equalIn (d + 1) t (.bool a) (.bool b)).run P w = .ok (a == b) w := by
  simp [Op.equalIn, run_under hu]
theorem run_eql_bool {P : Program} {t : TypeId} (hu : P.underlying t = some .bool) (a b : Bool) (w : World) : (binOp .eql t (.bool a) (.bool b)).run P w = .ok (.bool (a == b)) w := by
  have h := run_equalIn_bool hu 9999 a b w
  simp only [binOp]
  rw [show Op.equal t (.bool a) (.bool b) = Op.equalIn (9999 + 1) t (.bool a) (.bool b) from rfl]
  simp only [Sem.run_bind, h, Result.andThen_ok]
  rfl
theorem run_neq_bool {P : Program} {t : TypeId} (hu : P.underlying t = some .bool) (a b : Bool) (w : World) : (binOp .neq t (.bool a) (.bool b)).run P w = .ok (.bool (!(a == b))) w := by
  have h := run_equalIn_bool hu 9999 a b w
  simp only [binOp]
  rw [show Op.equal t (.bool a) (.bool b) = Op.equalIn (9999 + 1) t (.bool a) (.bool b) from rfl]
  simp only [Sem.run_bind, h, Result.andThen_ok]
  rfl
theorem neg_run (P : Program) (k : IntKind) (x : Int) (w : World) : (Op.unary .neg (.int k x)).run P w = .ok (.int k (k.wrap (0 - x))) w := by
  simp [Op.unary, Op.intArith]
theorem not_run (P : Program) (k : IntKind) (x : Int) (w : World) : (Op.unary .xor (.int k x)).run P w = .ok (.int k (bitsI .xor k (match k.signed with | true => -1 | false => k.max) x)) w := by
  simp only [Op.unary]
  rw [bits_run P .xor (by simp)]
  cases k <;> rfl
section
variable {P : Program} {T : Tab} (hT : TabOk P T) {s : Sit} {st : St} {a : Act} {K : AV → Prop}
include hT
theorem partV_ok {t : Nat} {cs : List AV} {off : Nat} {u : Array Value} (h : partV T t cs off K) (hr : VRels s cs u.toList) : ValOk P s (Go.part t u off) K := by
  unfold partV ti at h
  split at h
  · rename_i d hd
    have hk := hT t d hd
    split at h
    · rename_i ha
      split at h
      · rename_i r hp
        have hp' := hr.part hp
        refine ⟨_, .agg (u.extract off (off + d.size)), fun w => ?_, ?_, h⟩
        · simp [Go.part, hk.isAgg, ha, hk.size]
        · simp only [VRel]
          refine ⟨_, rfl, ?_⟩
          rw [Array.toList_extract, List.extract_eq_take_drop, Nat.add_sub_cancel_left]
          exact hp'
      · exact h.elim
    · rename_i ha
      split at h
      · rename_i v hv
        obtain ⟨x, hx, hxr⟩ := hr.nth hv
        refine ⟨v, x, fun w => ?_, hxr, h⟩
        simp only [Array.getElem?_toList] at hx
        simp [Go.part, hk.isAgg, ha, hx]
      · exact h.elim
  · exact h.elim
theorem fieldAt_ok {t fi : Nat} {K : Nat → Nat → Prop} (h : fieldAt T t fi K) : ∃ fields f, P.underlying t = some (.struct fields) ∧ fields[fi]? = some f ∧ K f.offset f.type := by
  unfold fieldAt ti at h
  split at h
  · rename_i d hd
    obtain ⟨desc, hu, hk⟩ := (hT t d hd).under
    split at h
    · rename_i fs hf
      rw [hf] at hk
      obtain ⟨fields, rfl, h1, h2⟩ := hk
      split at h
      · rename_i p hp
        rw [nth_eq, ← h1, List.getElem?_map] at hp
        simp only [Array.getElem?_toList] at hp
        cases hfi : fields[fi]? with
        | none => rw [hfi] at hp; simp at hp
        | some f =>
          rw [hfi] at hp
          simp at hp
          subst hp
          exact ⟨fields, f, hu, hfi, h⟩
      · exact h.elim
    · exact h.elim
  · exact h.elim
theorem esz_ok {t : Nat} {K : Nat → Prop} (h : esz T t K) : ∃ d, T t = some d ∧ K d.size := by
  unfold esz ti at h
  split at h
  · exact ⟨_, ‹_›, h⟩
  · exact h.elim

theorem pick_ok {c : BX} {x y : AV} {u v : Value} (h : ePick c x y K) (hx : VRel s x u) (hy : VRel s y v) : ∃ av, VRel s av (if c.v = true then u else v) ∧ K av := by
  unfold ePick at h
  split at h
  · exact ⟨x, by simpa [BX.v] using hx, h⟩
  · exact ⟨y, by simpa [BX.v] using hy, h⟩
  · rename_i f
    have br : Br f (fun _ => K x) (fun _ => K y) → ∃ av, VRel s av (if (BX.t f).v = true then u else v) ∧ K av := by
      intro h
      cases h with
      | mk h1 h2 =>
        cases hf : f ()
        · exact ⟨y, by simpa [BX.v, hf] using hy, h2 hf⟩
        · exact ⟨x, by simpa [BX.v, hf] using hx, h1 hf⟩
    split at h
    · split at h
      · refine ⟨_, ?_, h⟩
        simp only [VRel] at hx hy ⊢
        subst hx; subst hy
        show (if f () = true then _ else _) = Value.bool (match f () with | true => _ | false => _)
        by_cases hf : f () = true
        · rw [if_pos hf, hf]
        · have hf' : f () = false := by simpa using hf
          rw [if_neg hf, hf']
      · exact br h
    · exact br h

theorem bin_ok {op : BinOp} {t : TypeId} {x y : AV} {xo yo : Operand} {u v : Value} (h : eBin T op t x y K) (hx : VRel s x u) (hy : VRel s y v) : ValOk P s (do eqGuard op t xo yo u v; binOp op t u v) K := by
  unfold eBin at h
  split at h
  · rename_i k n
    split at h
    · rename_i k' n'
      simp only [VRel] at hx hy
      subst hx; subst hy
      have go : ∀ K' : AV → Prop, Gets P (binOp op t (.int k n.v) (.int k' n'.v)) K' → ValOk P s (do eqGuard op t xo yo (.int k n.v) (.int k' n'.v); binOp op t (.int k n.v) (.int k' n'.v)) K' := by
        intro K' hg
        obtain ⟨av, z, h1, h2, h3⟩ := hg
        exact ⟨av, z, fun w => by simp [eqGuard_at_int, h1 w], h2 s, h3⟩
      split at h
      · exact go _ (eInt_gets t (fun h => absurd rfl h) h)
      · exact go _ (eInt_gets t (fun _ h => absurd rfl h) h)
      · split at h
        · rename_i hk
          exact go _ (eInt_gets t (fun _ _ => kEq_eq hk) h)
        · exact h.elim
    · exact h.elim
  · rename_i p
    split at h
    · rename_i q
      simp only [VRel] at hx hy
      subst hx; subst hy
      unfold ti at h
      split at h
      · rename_i d hd
        obtain ⟨desc, hu, hk⟩ := (hT t d hd).under
        split at h
        · rename_i hdk
          rw [hdk] at hk
          simp only [KOk] at hk
          subst hk
          split at h
          · refine ⟨_, .bool (bEq p q).v, fun w => ?_, by simp [VRel], h⟩
            simp only [eqGuard_at_bool, Sem.run_bind, Sem.run_pure, Result.andThen_ok, run_eql_bool hu, bEq_v]
          · refine ⟨_, .bool (bNot (bEq p q)).v, fun w => ?_, by simp [VRel], h⟩
            simp only [eqGuard_at_bool, Sem.run_bind, Sem.run_pure, Result.andThen_ok, run_neq_bool hu, bEq_v, bNot_v]
          · exact h.elim
        · exact h.elim
      · exact h.elim
    · exact h.elim
  · exact h.elim
theorem un_ok {op : UnOp} {x : AV} {u : Value} (h : eUn op x K) (hx : VRel s x u) : ValOk P s (Op.unary op u) K := by
  unfold eUn at h
  split at h
  · split at h
    · simp only [VRel] at hx; subst hx
      exact ⟨_, _, fun w => by simp [Op.unary]; rfl, by simp [VRel, bNot_v], h⟩
    · exact h.elim
  · split at h
    · rename_i k n
      simp only [VRel] at hx; subst hx
      exact (fit_gets h fun w => by rw [ix2_v]; exact neg_run P k _ w).ok
    · exact h.elim
  · split at h
    · rename_i k n
      simp only [VRel] at hx; subst hx
      exact (gets_int (fun w => by rw [ix2_v]; exact not_run P k _ w) h).ok
    · exact h.elim
  · exact h.elim
theorem conv_ok {sr ds : TypeId} {dd sd : TD} (hd : T ds = some dd) (hs : T sr = some sd) {k k' : IntKind} (hk : dd.k = .int k) {n : IX} (h : eConv k n K) : ValOk P s (convert sr ds (.int k' n.v)) K := by
  obtain ⟨desc, hu, hkd⟩ := (hT ds dd hd).under
  obtain ⟨sdesc, hsu, _⟩ := (hT sr sd hs).under
  rw [hk] at hkd
  simp only [KOk] at hkd
  subst hkd
  have hrun : ∀ w, (convert sr ds (.int k' n.v)).run P w = .ok (.int k (k.wrap n.v)) w := fun w => by
    simp only [convert, Sem.run_bind, run_under hu, run_under hsu, Result.andThen_ok]
    simp [Conv.intToInt]
  unfold eConv at h
  split at h
  · exact (gets_int (n := .l _) (by simpa [IX.v] using hrun) h).ok
  · exact (gets_int (n := .t _) (by simpa [IX.v] using hrun) h).ok
end
end Go.Sy
end

section
/- Soundness: plain operations, all. -/
namespace Go.Sy
set_option linter.unusedSimpArgs false
set_option linter.unusedVariables false
set_option linter.unusedSectionVars false

/-! ### building -/
theorem fold_set (off : Nat) : ∀ (l : List Value) (n : Nat) (arr : Array Value),
    ((l.zipIdx n).foldl (fun cs p => cs.setIfInBounds (off + p.2) p.1) arr).size = arr.size ∧
    (off + n + l.length ≤ arr.size → ∀ k, ((l.zipIdx n).foldl (fun cs p => cs.setIfInBounds (off + p.2) p.1) arr)[k]? = if off + n ≤ k ∧ k < off + n + l.length then l[k - (off + n)]? else arr[k]?)
  | [], n, arr => ⟨rfl, fun _ k => by simp; intro h1 h2; omega⟩
  | v :: l, n, arr => by
    obtain ⟨h1, h2⟩ := fold_set off l (n + 1) (arr.setIfInBounds (off + n) v)
    simp only [List.zipIdx_cons, List.foldl_cons]
    refine ⟨by rw [h1]; simp, fun hle k => ?_⟩
    simp only [List.length_cons] at hle
    rw [h2 (by simp; omega) k]
    by_cases hk : k = off + n
    · subst hk
      rw [if_neg (by omega), if_pos (by simp)]
      simp [Array.getElem?_setIfInBounds]; omega
    · rw [Array.getElem?_setIfInBounds_ne (by omega)]
      simp only [List.length_cons]
      by_cases hr : off + (n + 1) ≤ k ∧ k < off + (n + 1) + l.length
      · rw [if_pos hr, if_pos (by omega), show k - (off + n) = (k - (off + (n + 1))) + 1 by omega, List.getElem?_cons_succ]
      · rw [if_neg hr, if_neg (by omega)]
def PRel (s : Sit) : List (Nat × AV) → List (Nat × Value) → Prop
  | [], qs => qs = []
  | p :: l, qs => ∃ q r, qs = q :: r ∧ q.1 = p.1 ∧ VRel s p.2 q.2 ∧ PRel s l r
theorem fill_ok {T : Tab} {s : Sit} {place : Nat → Option (Nat × Nat)} {place' : Nat → Option (Nat × Nat)} (hp : ∀ i off t, place i = some (off, t) → ∀ d, T t = some d → place' i = some (off, d.size)) :
    ∀ {ps : List (Nat × AV)} {qs : List (Nat × Value)} {cs : List AV} {arr : Array Value} {K : List AV → Prop}, fillA T place cs ps K → PRel s ps qs → VRels s cs arr.toList →
      ∃ cs' arr', Instr.fill place' arr qs = some arr' ∧ VRels s cs' arr'.toList ∧ K cs'
  | [], qs, cs, arr, K, h, hr, hv => by
    simp only [PRel] at hr; subst hr
    exact ⟨cs, arr, rfl, hv, h⟩
  | p :: ps, qs, cs, arr, K, h, hr, hv => by
    simp only [PRel] at hr
    obtain ⟨q, r, rfl, hq, hqr, hr⟩ := hr
    simp only [fillA] at h
    split at h
    · rename_i x hx
      obtain ⟨d, vs, hd, h', hvs, hl, _⟩ := cellsV_sound h hqr
      split at h'
      · rename_i cs2 hcs
        obtain ⟨h1, h2, h3⟩ := putAt_some hcs
        obtain ⟨qi, qv⟩ := q
        obtain ⟨xo, xt⟩ := x
        have hpl := hp p.1 xo xt hx d hd
        simp only at hq hqr hvs hcs h1 h2 h3 hd
        subst hq
        have hsz : qv.cells.size = vs.length := by rw [← Array.length_toList, hvs.length]
        have hal : arr.size = cs.length := by rw [← Array.length_toList, hv.length]
        obtain ⟨f1, f2⟩ := fold_set xo qv.cells.toList 0 arr
        simp only [Nat.add_zero, Array.length_toList] at f2
        have hfold : qv.cells.zipIdx.foldl (fun cs p => cs.setIfInBounds (xo + p.2) p.1) arr = qv.cells.toList.zipIdx.foldl (fun cs p => cs.setIfInBounds (xo + p.2) p.1) arr := by
          rw [← Array.foldl_toList, Array.toList_zipIdx]
        have hv2 : VRels s cs2 (qv.cells.toList.zipIdx.foldl (fun cs p => cs.setIfInBounds (xo + p.2) p.1) arr).toList := by
          refine hv.putAt hvs hcs ?_ fun j => ?_
          · rw [Array.length_toList, Array.length_toList]; exact f1
          · rw [Array.getElem?_toList, f2 (by omega) j, Array.length_toList]; simp only [Array.getElem?_toList]
        obtain ⟨cs', arr', e1, e2, e3⟩ := fill_ok hp h' hr hv2
        refine ⟨cs', arr', ?_, e2, e3⟩
        simp only [Instr.fill, hpl]
        rw [if_neg (by simp; constructor <;> omega)]
        rw [show (fun (cs : Array Value) (x : Value × Nat) => match x with | (c, j) => cs.setIfInBounds (xo + j) c) = (fun cs p => cs.setIfInBounds (xo + p.2) p.1) from rfl, hfold]
        exact e1
      · exact h'.elim
    · exact h.elim
theorem parts_rel {s : Sit} {t : List AV} {a : Act} (ht : VRels s t a.tmps.toList) : ∀ l : List (Nat × Operand), PRel s (parts t l) (l.map fun p => (p.1, a.eval p.2))
  | [] => by simp [parts, PRel]
  | p :: l => by simp only [parts, List.map_cons, PRel]; exact ⟨_, _, rfl, rfl, ev_rel ht p.2, parts_rel ht l⟩
theorem listMapM_run {α β : Type} {P : Program} {w : World} {g : α → Sem β} {f : α → β} : ∀ (l : List α), (∀ x ∈ l, (g x).run P w = .ok (f x) w) → (l.mapM g).run P w = .ok (l.map f) w
  | [], _ => by simp
  | x :: l, h => by
    simp only [List.mapM_cons, Sem.run_bind, h x (by simp), Result.andThen_ok, listMapM_run l (fun y hy => h y (by simp [hy])), Sem.run_pure, List.map_cons]
theorem mapM_run {α β : Type} {P : Program} {w : World} {g : α → Sem β} {f : α → β} (l : Array α) (h : ∀ x ∈ l.toList, (g x).run P w = .ok (f x) w) : (l.mapM g).run P w = .ok (l.map f) w := by
  rw [Array.mapM_eq_mapM_toList, Sem.run_map, listMapM_run l.toList h]
  simp only [Result.andThen_ok]
  congr 1
  apply Array.ext'
  simp
section
variable {P : Program} {T : Tab} (hT : TabOk P T) {s : Sit} {st : St} {a : Act} {K : AV → Prop}
include hT
theorem build_ok {t : Nat} {ps : List (Nat × AV)} {qs : Array (Nat × Value)} (h : eBuild T t ps K) (hr : PRel s ps qs.toList) : ValOk P s (Instr.build t qs) K := by
  unfold eBuild ti at h
  split at h
  · rename_i d hd
    have hk := hT t d hd
    obtain ⟨desc, hu, hkd⟩ := hk.under
    split at h
    · rename_i fs hf
      rw [hf] at hkd
      obtain ⟨fields, rfl, h1, h2⟩ := hkd
      have hz : ∃ z, (∀ w, (zeroValue t).run P w = .ok z w) ∧ ZRels d.zero z.cells.toList := by
        obtain ⟨i, z, hi, _, _, hz, _, hzr, _⟩ := hk.info
        exact ⟨z, fun w => by simp [zeroValue, typeInfo, hi, hz], hzr⟩
      obtain ⟨z, hz1, hz2⟩ := hz
      have hplaces : ∀ w, (fields.mapM fun (f : Field) => (do pure (f.offset, ← sizeOf f.type) : Sem (Nat × Nat))).run P w = .ok (fields.map fun (f : Field) => (f.offset, P.cellsOf f.type)) w := fun w =>
        mapM_run fields fun f hf => by
          have := h2 f hf
          cases hi : P.info? f.type with
          | none => rw [hi] at this; simp at this
          | some i => simp [sizeOf, typeInfo, hi, Program.cellsOf]
      obtain ⟨cs', arr', e1, e2, e3⟩ := fill_ok (place' := ((fields.map fun (f : Field) => (f.offset, P.cellsOf f.type))[·]?)) (fun i off t' hp d' hd' => by
        rw [nth_eq, ← h1, List.getElem?_map] at hp
        simp only [Array.getElem?_map]
        simp only [Array.getElem?_toList] at hp
        cases hfi : fields[i]? with
        | none => rw [hfi] at hp; simp at hp
        | some f =>
          rw [hfi] at hp
          simp at hp
          obtain ⟨rfl, rfl⟩ := hp
          obtain ⟨ii, _, hi, hs, _⟩ := (hT f.type d' hd').info
          simp [Program.cellsOf, hi, hs]) h hr (hz2.rels s)
      refine ⟨.agg cs', .agg arr', fun w => ?_, by simp only [VRel]; exact ⟨_, rfl, e2⟩, e3⟩
      simp only [Instr.build, Sem.run_bind, hz1, Result.andThen_ok, run_under hu, hplaces, e1]
      rfl
    · rename_i n e hf
      rw [hf] at hkd
      simp only [KOk] at hkd
      subst hkd
      obtain ⟨de, hde, h⟩ := esz_ok hT h
      have hke := hT e de hde
      have hz : ∃ z, (∀ w, (zeroValue t).run P w = .ok z w) ∧ ZRels d.zero z.cells.toList := by
        obtain ⟨i, z, hi, _, _, hz, _, hzr, _⟩ := hk.info
        exact ⟨z, fun w => by simp [zeroValue, typeInfo, hi, hz], hzr⟩
      obtain ⟨z, hz1, hz2⟩ := hz
      obtain ⟨cs', arr', e1, e2, e3⟩ := fill_ok (place' := fun i => some (i * de.size, de.size)) (fun i off t' hp d' hd' => by
        simp at hp
        obtain ⟨rfl, rfl⟩ := hp
        rw [hde] at hd'
        simp at hd'
        subst hd'
        rfl) h hr (hz2.rels s)
      refine ⟨.agg cs', .agg arr', fun w => ?_, by simp only [VRel]; exact ⟨_, rfl, e2⟩, e3⟩
      simp only [Instr.build, Sem.run_bind, hz1, Result.andThen_ok, run_under hu, hke.size, e1]
      rfl
    · exact h.elim
  · exact h.elim

/-! ### addresses of elements, elements -/
theorem base_rows {h : Heap} (hh : HRel s h) {b : Nat} {o : Obj} {sig : List Kd} {l : Unit → List (List D)} (ho : nth h b = some (some o)) (hc : o.c = .rows sig l) : ∃ ab, nth s.base b = some (ab, sig.length) ∧ 0 < sig.length := by
  obtain ⟨ab, sz, h1, h2⟩ := hh.obj b o ho
  rw [hc] at h2
  obtain ⟨rfl, h0, _⟩ := h2
  exact ⟨ab, h1, h0⟩
theorem place_add {b i f n : Nat} {ad : Addr} (h : s.place b i f ad) : s.place b i (f + n) ⟨ad.block, ad.off + n, none⟩ := by
  obtain ⟨a, z, h1, h2, rfl⟩ := h
  exact ⟨a, z, h1, h2, by simp [Nat.add_assoc]⟩
theorem place_row {b i j z : Nat} {ad : Addr} {ab : Option Addr} (h : s.place b i 0 ad) (hb : nth s.base b = some (ab, z)) : s.place b (i + j) 0 ⟨ad.block, ad.off + j * z, none⟩ := by
  obtain ⟨a, z', h1, h2, rfl⟩ := h
  rw [hb] at h1
  simp at h1
  obtain ⟨rfl, rfl⟩ := h1
  exact ⟨a, z, hb, h2, by simp [Nat.add_mul, Nat.add_assoc]⟩
theorem place_spot {b i f : Nat} {ad : Addr} (h : s.place b i f ad) : ad = ⟨ad.block, ad.off, none⟩ := by
  obtain ⟨a, z, h1, h2, rfl⟩ := h; rfl
theorem add_none {ad : Addr} (h : ad = ⟨ad.block, ad.off, none⟩) (n : Nat) : ad.add n = ⟨ad.block, ad.off + n, none⟩ := by
  rw [h]; simp [Addr.add]
theorem sl_place {b : Nat} {i f n c : NX} {z : Nat} {ex : Bool} {v : Value} (h : VRel s (.sl b i f z n c ex) v) (hn : 0 < n.v) : ∃ ad cap, v = .slice (some ad) n.v cap ∧ s.place b i.v f.v ad ∧ 0 < z := by
  simp only [VRel] at h
  obtain ⟨a, cap, rfl, h1, h2, h3, h4, h5, h6⟩ := h
  rcases h6 with h6 | ⟨ad, rfl, hp, _⟩
  · omega
  · exact ⟨ad, cap, rfl, hp, h4⟩
theorem indexAddr_ok {t : Nat} {x : AV} {u : Value} {n : IX} {k : IntKind} {h' : Heap} (hh : HRel s h') (h : eIndexAddr T t x n h' K) (hx : VRel s x u) : ValOk P s (Instr.indexAt t u (.int k n.v)) K := by
  unfold eIndexAddr ti at h
  split at h
  · rename_i d hd
    have hk := hT t d hd
    obtain ⟨desc, hu, hkd⟩ := hk.under
    split at h
    · rename_i m e hf
      rw [hf] at hkd
      simp only [KOk] at hkd
      subst hkd
      split at h
      · rename_i b i f
        obtain ⟨de, hde, h⟩ := esz_ok hT h
        have hke := hT e de hde
        obtain ⟨h0, h1, h⟩ := inN_ok h
        simp only [VRel] at hx
        obtain ⟨ad, hp, rfl⟩ := hx
        simp only [NX.v] at h1
        have hrun : ∀ w, (Instr.indexAt t (.pointer (some ad)) (.int k n.v)).run P w = .ok (.pointer (some ⟨ad.block, ad.off + n.v.toNat * de.size, none⟩)) w := fun w => by
          simp only [Instr.indexAt, asIntOf, Sem.run_bind, Sem.run_pure, Result.andThen_ok, run_under hu, Instr.sureAddr]
          rw [if_pos ⟨h0, h1⟩]
          simp only [Sem.run_bind, hke.size, Result.andThen_ok, Sem.run_pure, add_none hT (place_spot hT hp)]
        split at h
        · rename_i o ho
          split at h
          · refine ⟨_, _, hrun, ?_, h⟩
            simp only [VRel]
            exact ⟨_, by rw [nAdd_v, nMul_v, natOf_v]; exact place_add hT hp, rfl⟩
          · rename_i sig l hc
            split at h
            · split at h
              · rename_i hsz
                have hsz := Nat.eq_of_beq_eq_true hsz
                rw [len_eq] at hsz
                obtain ⟨ab, hb, _⟩ := base_rows hT hh ho hc
                refine ⟨_, _, hrun, ?_, h⟩
                simp only [VRel]
                exact ⟨_, by rw [nAdd_v, natOf_v, ← hsz]; exact place_row hT (by simpa [NX.v] using hp) hb, rfl⟩
              · exact h.elim
            · exact h.elim
        · exact h.elim
      · exact h.elim
    · rename_i e hf
      rw [hf] at hkd
      simp only [KOk] at hkd
      subst hkd
      split at h
      · rename_i b i f z nn c ex
        obtain ⟨de, hde, h⟩ := esz_ok hT h
        have hke := hT e de hde
        split at h
        · rename_i hz
          have hz := Nat.eq_of_beq_eq_true hz
          obtain ⟨h0, h1, h⟩ := inN_ok h
          obtain ⟨ad, cap, rfl, hp, _⟩ := sl_place hT hx (by omega)
          have hrun : ∀ w, (Instr.indexAt t (.slice (some ad) nn.v cap) (.int k n.v)).run P w = .ok (.pointer (some ⟨ad.block, ad.off + n.v.toNat * z, none⟩)) w := fun w => by
            simp only [Instr.indexAt, asIntOf, Sem.run_bind, Sem.run_pure, Result.andThen_ok, run_under hu]
            rw [if_pos ⟨h0, h1⟩]
            simp only [Sem.run_bind, hke.size, Result.andThen_ok, Sem.run_pure, add_none hT (place_spot hT hp), hz]
          split at h
          · rename_i o ho
            split at h
            · refine ⟨_, _, hrun, ?_, h⟩
              simp only [VRel]
              exact ⟨_, by rw [nAdd_v, nMul_v, natOf_v]; exact place_add hT hp, rfl⟩
            · rename_i sig l hc
              split at h
              · split at h
                · rename_i hsz
                  have hsz := Nat.eq_of_beq_eq_true hsz
                  rw [len_eq] at hsz
                  obtain ⟨ab, hb, _⟩ := base_rows hT hh ho hc
                  refine ⟨_, _, hrun, ?_, h⟩
                  simp only [VRel]
                  exact ⟨_, by rw [nAdd_v, natOf_v, ← hsz]; exact place_row hT (by simpa [NX.v] using hp) hb, rfl⟩
                · exact h.elim
              · exact h.elim
          · exact h.elim
        · exact h.elim
      · exact h.elim
    · exact h.elim
  · exact h.elim
end
end Go.Sy
end

section
/- Soundness: plain operations, together. -/
namespace Go.Sy
set_option linter.unusedSimpArgs false
set_option linter.unusedVariables false
set_option linter.unusedSectionVars false
theorem zv (n : Nat) : (NX.l n).v = n := rfl
section
variable {P : Program} {T : Tab} (hT : TabOk P T) {s : Sit} {st : St} {a : Act} {K : AV → Prop}
include hT
theorem size_one {t : Nat} {d : TD} (hd : T t = some d) (ha : d.isAgg = false) : d.size = 1 := by
  obtain ⟨i, z, _, _, _, _, h1, _, _, h2⟩ := (hT t d hd).info
  rw [← h1, h2 ha]; rfl
theorem index_ok {t : Nat} {x : AV} {u : Value} {n : IX} {k : IntKind} (h : eIndex T t x n K) (hx : VRel s x u) : ValOk P s (Instr.index t u (.int k n.v)) K := by
  unfold eIndex ti at h
  split at h
  · rename_i d hd
    have hk := hT t d hd
    obtain ⟨desc, hu, hkd⟩ := hk.under
    split at h
    · rename_i m e hf
      rw [hf] at hkd
      simp only [KOk] at hkd
      subst hkd
      split at h
      · rename_i de hde
        have hke := hT e de hde
        have hrun : ∀ (cs : Array Value) (j : Int), 0 ≤ j → j < (m : Int) → ∀ w, (Instr.index t (.agg cs) (.int k j)).run P w = (Go.part e cs (j.toNat * de.size)).run P w := fun cs j h0 h1 w => by
          simp only [Instr.index, asIntOf, Sem.run_bind, Sem.run_pure, Result.andThen_ok, run_under hu]
          rw [if_pos ⟨h0, h1⟩]
          simp only [Sem.run_bind, hke.size, Result.andThen_ok]
        have one : ∀ (cs : Array Value) (off : Nat) (v : Value), de.isAgg = false → cs[off]? = some v → ∀ w, (Go.part e cs off).run P w = .ok v w := fun cs off v ha hv w => by
          simp [Go.part, hke.isAgg, ha, hv]
        split at h
        · rename_i j
          obtain ⟨h0, h1, h⟩ := inN_ok h
          simp only [IX.v, NX.v] at h0 h1
          split at h
          · rename_i cs
            simp only [VRel] at hx
            obtain ⟨cs', rfl, hx⟩ := hx
            obtain ⟨av, v, e1, e2, e3⟩ := partV_ok hT h hx
            exact ⟨av, v, fun w => by rw [show (IX.l j).v = j from rfl, hrun _ j h0 h1]; exact e1 w, e2, e3⟩
          · rename_i sig l _
            split at h
            · rename_i ha
              split at h
              · rename_i q _
                cases h with
                | mk hn h =>
                  simp only [VRel] at hx
                  obtain ⟨cs', rfl, hs, _, hx⟩ := hx
                  have hs1 := size_one hT hde ha
                  obtain ⟨r, hr⟩ := nth_of_lt (l := l ()) (i := j.toNat) (by omega)
                  have hrl := hx.1 _ _ hr
                  obtain ⟨dd, hdd⟩ := nth_of_lt (l := r) (i := 0) (by rw [hrl]; simp)
                  obtain ⟨v, hv, hvr⟩ := hx.2 _ 0 r q dd hr rfl hdd
                  refine ⟨_, v, fun w => ?_, ?_, h⟩
                  · rw [show (IX.l j).v = j from rfl, hrun _ j h0 h1, hs1]
                    exact one _ _ _ ha (by simpa using hv) w
                  · refine cellOf_rel ?_
                    rw [getD_of_nth hr, getD_of_nth hdd]
                    exact hvr
              · exact h.elim
            · exact h.elim
          · exact h.elim
        · rename_i j
          obtain ⟨h0, h1, h⟩ := inN_ok h
          simp only [IX.v, NX.v] at h0 h1
          split at h
          · rename_i sig hsig
            obtain ⟨l, cs', h, rfl, hsz, hn, hx⟩ := asRows_sound h hx
            split at h
            · rename_i ha
              split at h
              · rename_i q _
                have hs1 := size_one hT hde ha
                obtain ⟨r, hr⟩ := nth_of_lt (l := l ()) (i := (j ()).toNat) (by omega)
                have hrl := hx.1 _ _ hr
                obtain ⟨dd, hdd⟩ := nth_of_lt (l := r) (i := 0) (by rw [hrl]; simp)
                obtain ⟨v, hv, hvr⟩ := hx.2 _ 0 r q dd hr rfl hdd
                refine ⟨_, v, fun w => ?_, ?_, h⟩
                · rw [show (IX.t j).v = j () from rfl, hrun _ (j ()) h0 h1, hs1]
                  exact one _ _ _ ha (by simpa using hv) w
                · refine cellOf_rel ?_
                  rw [getD_of_nth hr, getD_of_nth hdd]
                  exact hvr
              · exact h.elim
            · rename_i ha
              split at h
              · rename_i hb
                have hb := Nat.eq_of_beq_eq_true hb
                rw [len_eq] at hb
                have hi : (j ()).toNat < (l ()).length := by omega
                have hle : (j ()).toNat * sig.length + sig.length ≤ cs'.size := by
                  rw [hsz, ← Nat.succ_mul]; exact Nat.mul_le_mul_right _ (by omega)
                refine ⟨_, .agg (cs'.extract ((j ()).toNat * de.size) ((j ()).toNat * de.size + de.size)), fun w => ?_, ?_, h⟩
                · rw [show (IX.t j).v = j () from rfl, hrun _ (j ()) h0 h1]
                  simp [Go.part, hke.isAgg, ha, hke.size]
                · simp only [VRel]
                  refine ⟨_, rfl, ?_⟩
                  rw [hb]
                  refine row_rel hx hi l rfl (by simp; omega) (fun q hq => ?_) _ rfl
                  rw [Array.getElem?_toList, Array.getElem?_extract]
                  rw [if_pos (by omega)]
              · exact h.elim
          · exact h.elim
      · exact h.elim
    · exact h.elim
  · exact h.elim

/-! ### slice expressions -/
theorem ixOf_ok {t : List AV} (ht : VRels s t a.tmps.toList) {o : Option Operand} {dflt : NX} {K : NX → Prop} (h : ixOf t o dflt K) :
    (o = none ∧ K dflt) ∨ ∃ x n k nx, o = some x ∧ a.eval x = .int k n ∧ 0 ≤ n ∧ nx.v = n.toNat ∧ K nx := by
  unfold ixOf at h
  split at h
  · exact .inl ⟨rfl, h⟩
  · rename_i x
    have hr := ev_rel ht x
    refine .inr ?_
    split at h
    · rename_i k n he
      rw [he] at hr
      simp only [VRel] at hr
      split at h
      · rename_i j
        split at h
        · rename_i hj
          exact ⟨x, j, k, _, rfl, hr, of_decide_eq_true hj, rfl, h⟩
        · exact h.elim
      · rename_i f
        cases h with
        | mk h1 h2 => exact ⟨x, f (), k, _, rfl, hr, h1, rfl, h2⟩
    · exact h.elim
theorem bound_run (k : IntKind) (i : Int) (y : Nat) (c : BoundsCode) (h0 : 0 ≤ i) (h1 : i.toNat ≤ y) (w : World) : (Instr.sliceBound (.int k i) y c).run P w = .ok i.toNat w := by
  simp only [Instr.sliceBound, asIntOf, Sem.run_bind, Sem.run_pure, Result.andThen_ok]
  rw [if_pos ⟨h0, by omega⟩]; rfl
/-- the three bounds, as they come out -/
theorem bounds_ok {tm : List AV} (ht : VRels s tm a.tmps.toList) {lo hi mx : Option Operand} {c n : NX} {K : NX → NX → NX → Prop} (isS : Bool) (ln cp : Nat) (hn : n.v = ln)
    (hc : c.v ≤ cp) (hmh : (match mx with | some _ => (match hi with | none => false | some _ => true) | none => true) = true)
    (h : ixOf tm mx c fun m => ixOf tm hi n fun u => ixOf tm lo (.l 0) fun l => leN m c fun _ => leN u m fun _ => leN l u fun _ => K l u m) :
    ∃ (l u m : NX) (m' : Nat), K l u m ∧ l.v ≤ u.v ∧ u.v ≤ m.v ∧ m.v ≤ m' ∧ m' ≤ cp ∧ m.v ≤ c.v ∧ (mx ≠ none → m' = m.v) ∧ (mx = none → m' = cp ∧ m.v = c.v) ∧
      ∀ w, (Instr.sliceBounds isS ln cp (lo.map a.eval) (hi.map a.eval) (mx.map a.eval)).run P w = .ok (l.v, u.v, m') w := by
  rcases ixOf_ok hT ht h with ⟨rfl, hA⟩ | ⟨xm, im, km, m, rfl, em, h0m, hvm, hA⟩
  · rcases ixOf_ok hT ht hA with ⟨rfl, hB⟩ | ⟨xh, ih, kh, u, rfl, eh, h0h, hvh, hB⟩
    · rcases ixOf_ok hT ht hB with ⟨rfl, hC⟩ | ⟨xl, il, kl, l, rfl, el, h0l, hvl, hC⟩
      · obtain ⟨h1, hD⟩ := leN_ok hC
        obtain ⟨h2, hE⟩ := leN_ok hD
        obtain ⟨h3, hF⟩ := leN_ok hE
        exact ⟨_, _, _, cp, hF, h3, h2, hc, Nat.le_refl _, Nat.le_refl _, fun h => absurd rfl h, fun _ => ⟨rfl, rfl⟩, fun w => by simp only [Instr.sliceBounds, Option.map_none, Sem.run_bind, Sem.run_pure, Result.andThen_ok, zv, hn]⟩
      · obtain ⟨h1, hD⟩ := leN_ok hC
        obtain ⟨h2, hE⟩ := leN_ok hD
        obtain ⟨h3, hF⟩ := leN_ok hE
        refine ⟨_, _, _, cp, hF, h3, h2, hc, Nat.le_refl _, Nat.le_refl _, fun h => absurd rfl h, fun _ => ⟨rfl, rfl⟩, fun w => ?_⟩
        simp only [Instr.sliceBounds, Option.map_none, Option.map_some, Sem.run_bind, Sem.run_pure, Result.andThen_ok, el, bound_run hT kl il ln _ h0l (by omega), hvl, Option.isSome_none, hn, zv]
        try rfl
    · rcases ixOf_ok hT ht hB with ⟨rfl, hC⟩ | ⟨xl, il, kl, l, rfl, el, h0l, hvl, hC⟩
      · obtain ⟨h1, hD⟩ := leN_ok hC
        obtain ⟨h2, hE⟩ := leN_ok hD
        obtain ⟨h3, hF⟩ := leN_ok hE
        refine ⟨_, _, _, cp, hF, h3, h2, hc, Nat.le_refl _, Nat.le_refl _, fun h => absurd rfl h, fun _ => ⟨rfl, rfl⟩, fun w => ?_⟩
        simp only [Instr.sliceBounds, Option.map_none, Option.map_some, Sem.run_bind, Sem.run_pure, Result.andThen_ok, eh, bound_run hT kh ih cp _ h0h (by omega), hvh, Option.isSome_none, Option.isSome_some, zv]
        try rfl
      · obtain ⟨h1, hD⟩ := leN_ok hC
        obtain ⟨h2, hE⟩ := leN_ok hD
        obtain ⟨h3, hF⟩ := leN_ok hE
        refine ⟨_, _, _, cp, hF, h3, h2, hc, Nat.le_refl _, Nat.le_refl _, fun h => absurd rfl h, fun _ => ⟨rfl, rfl⟩, fun w => ?_⟩
        simp only [Instr.sliceBounds, Option.map_none, Option.map_some, Sem.run_bind, Sem.run_pure, Result.andThen_ok, eh, bound_run hT kh ih cp _ h0h (by omega), el, bound_run hT kl il ih.toNat _ h0l (by omega), hvh, hvl, Option.isSome_none, Option.isSome_some, zv]
        try rfl
  · rcases ixOf_ok hT ht hA with ⟨rfl, hB⟩ | ⟨xh, ih, kh, u, rfl, eh, h0h, hvh, hB⟩
    · simp at hmh
    · rcases ixOf_ok hT ht hB with ⟨rfl, hC⟩ | ⟨xl, il, kl, l, rfl, el, h0l, hvl, hC⟩
      · obtain ⟨h1, hD⟩ := leN_ok hC
        obtain ⟨h2, hE⟩ := leN_ok hD
        obtain ⟨h3, hF⟩ := leN_ok hE
        refine ⟨_, _, _, m.v, hF, h3, h2, Nat.le_refl _, by omega, h1, fun _ => rfl, (fun h => by cases h), fun w => ?_⟩
        simp only [Instr.sliceBounds, Option.map_none, Option.map_some, Sem.run_bind, Sem.run_pure, Result.andThen_ok, em, bound_run hT km im cp _ h0m (by omega), eh, bound_run hT kh ih im.toNat _ h0h (by omega), hvh, hvm, zv]
        try rfl
      · obtain ⟨h1, hD⟩ := leN_ok hC
        obtain ⟨h2, hE⟩ := leN_ok hD
        obtain ⟨h3, hF⟩ := leN_ok hE
        refine ⟨_, _, _, m.v, hF, h3, h2, Nat.le_refl _, by omega, h1, fun _ => rfl, (fun h => by cases h), fun w => ?_⟩
        simp only [Instr.sliceBounds, Option.map_none, Option.map_some, Sem.run_bind, Sem.run_pure, Result.andThen_ok, em, bound_run hT km im cp _ h0m (by omega), eh, bound_run hT kh ih im.toNat _ h0h (by omega), el, bound_run hT kl il ih.toNat _ h0l (by omega), hvh, hvm, hvl]
        try rfl
end
end Go.Sy
end
