/- Soundness: objects renumbered, some left out. -/
import Derived.Test.YtlgmbpnlakjefaaSyQ
namespace Go.Sy
set_option linter.unusedSimpArgs false
set_option linter.unusedVariables false
set_option linter.unusedSectionVars false

/-- the same world, seen from another situation -/
structure Sub (s s1 : Sit) : Prop where
  w : s1.w = s.w
  ok : ∀ b, s.ok b → s1.ok b
theorem DRel.sub {s s1 : Sit} (h : Sub s s1) {k : Kd} {d : D} {v : Value} (hd : DRel s k d v) : DRel s1 k d v := by
  induction hd with
  | int k n => exact .int k n
  | bool b => exact .bool b
  | nil sig a cap => exact .nil sig a cap
  | sl sig rows blk off cap val hok hz hne hcap hl hc _ ih =>
    exact .sl sig rows blk off cap val (h.ok _ hok) hz hne hcap hl (fun i j r k d h1 h2 h3 => by rw [h.w]; exact hc i j r k d h1 h2 h3) ih
theorem DIn.sub {s s1 : Sit} (h : Sub s s1) {sig : List Kd} {g g' : Nat → Option Value} {rows : List (List D)} (hd : DIn s sig g rows) (hg : ∀ n, g' n = g n) : DIn s1 sig g' rows :=
  ⟨hd.1, fun i j r k d h1 h2 h3 => let ⟨v, hv, hr⟩ := hd.2 i j r k d h1 h2 h3; ⟨v, by rw [hg]; exact hv, hr.sub h⟩⟩
def Ren (s s1 : Sit) (r : Nat → Option Nat) : Prop := ∀ b c x, r b = some c → nth s.base b = some x → nth s1.base c = some x
theorem Ren.place {s s1 : Sit} {r : Nat → Option Nat} (hr : Ren s s1 r) {b c i f : Nat} {ad : Addr} (hb : r b = some c) (h : s.place b i f ad) : s1.place c i f ad := by
  obtain ⟨a, z, h1, h2⟩ := h
  exact ⟨a, z, hr _ _ _ hb h1, h2⟩
mutual
theorem VRel.ren {s s1 : Sit} (h : Sub s s1) {r : Nat → Option Nat} (hr : Ren s s1 r) : ∀ (a : AV) (v : Value), VRel s a v → VRel s1 (renV r a) v
  | .undef, _, _ => by simp [renV, VRel]
  | .bool b, v, hv => by simpa [renV, VRel] using hv
  | .int k n, v, hv => by simpa [renV, VRel] using hv
  | .nilp, v, hv => by simpa [renV, VRel] using hv
  | .nils, v, hv => by simpa [renV, VRel] using hv
  | .nilf, v, hv => by simpa [renV, VRel] using hv
  | .ptr b i f, v, hv => by
    simp only [renV]
    split
    · rename_i c hc
      simp only [VRel] at hv ⊢
      obtain ⟨ad, h1, h2⟩ := hv
      exact ⟨ad, hr.place hc h1, h2⟩
    · simp [VRel]
  | .sl b i f z n c ex, v, hv => by
    simp only [renV]
    split
    · rename_i d hd
      simp only [VRel] at hv ⊢
      obtain ⟨a, cap, h1, h2, h3, h4, h5, h6, h7⟩ := hv
      obtain ⟨x, hx⟩ := nth_of_lt h6
      refine ⟨a, cap, h1, h2, h3, h4, h5, nth_some_lt (hr _ _ _ hd hx), ?_⟩
      rcases h7 with h7 | ⟨ad, ha, hp, t, m, hs, hm⟩
      · exact .inl h7
      · exact .inr ⟨ad, ha, hr.place hd hp, t, m, by rw [h.w]; exact hs, hm⟩
    · simp [VRel]
  | .ro sig l, v, hv => by simp only [renV, VRel] at hv ⊢; exact hv.sub h
  | .func fn fs cs, v, hv => by
    simp only [renV, VRel] at hv ⊢
    obtain ⟨a, b, h1, h2, h3⟩ := hv
    exact ⟨a, b, h1, VRels.ren h hr _ _ h2, VRels.ren h hr _ _ h3⟩
  | .agg cs, v, hv => by
    simp only [renV, VRel] at hv ⊢
    obtain ⟨a, h1, h2⟩ := hv
    exact ⟨a, h1, VRels.ren h hr _ _ h2⟩
  | .arr sig l, v, hv => by
    simp only [renV, VRel] at hv ⊢
    obtain ⟨a, h1, h2, h0, h3⟩ := hv
    exact ⟨a, h1, h2, h0, h3.sub h fun _ => rfl⟩
  | .tuple cs, v, hv => by
    simp only [renV, VRel] at hv ⊢
    obtain ⟨a, h1, h2⟩ := hv
    exact ⟨a, h1, VRels.ren h hr _ _ h2⟩
theorem VRels.ren {s s1 : Sit} (h : Sub s s1) {r : Nat → Option Nat} (hr : Ren s s1 r) : ∀ (l : List AV) (vs : List Value), VRels s l vs → VRels s1 (renL r l) vs
  | [], vs, hv => by simpa [renL, VRels] using hv
  | a :: l, vs, hv => by
    simp only [renL, VRels] at hv ⊢
    obtain ⟨v, u, h1, h2, h3⟩ := hv
    exact ⟨v, u, h1, VRel.ren h hr _ _ h2, VRels.ren h hr _ _ h3⟩
end
theorem nth_renL (r : Nat → Option Nat) : ∀ (l : List AV) (j : Nat), nth (renL r l) j = (nth l j).map (renV r)
  | [], _ => rfl
  | _ :: _, 0 => rfl
  | _ :: l, j + 1 => by simpa [renL, nth] using nth_renL r l j
theorem CellsIn.ren {s s1 : Sit} (h : Sub s s1) {r : Nat → Option Nat} (hr : Ren s s1 r) {g g' : Nat → Option Value} {l : List AV} (hc : CellsIn s g l) (hg : ∀ n, g' n = g n) : CellsIn s1 g' (renL r l) := by
  intro j a ha
  rw [nth_renL] at ha
  cases hn : nth l j with
  | none => rw [hn] at ha; cases ha
  | some b =>
    rw [hn] at ha
    simp at ha
    subst ha
    obtain ⟨v, hv, hvr⟩ := hc j b hn
    exact ⟨v, by rw [hg]; exact hv, VRel.ren h hr _ _ hvr⟩
theorem renO_mt (r : Nat → Option Nat) (o : Obj) : (renO r o).mt = o.mt := by unfold renO; split <;> rfl
theorem ORel.ren {s s1 : Sit} (h : Sub s s1) {r : Nat → Option Nat} (hr : Ren s s1 r) {b c : Nat} {o : Obj} (ho : ORel s b o) (hb : ∀ x, nth s.base b = some x → nth s1.base c = some x)
    (hf : ∀ ad sz, nth s.base b = some (some ad, sz) → Flags s o.mt ad.block → Flags s1 o.mt ad.block) : ORel s1 c (renO r o) := by
  obtain ⟨ab, sz, h1, h2⟩ := ho
  refine ⟨ab, sz, hb _ h1, ?_⟩
  have hmem : ∀ ad n, s1.mem ad n = s.mem ad n := fun ad n => by simp only [Sit.mem, h.w]
  rw [renO_mt]
  unfold renO
  cases hc : o.c with
  | cells l =>
    rw [hc] at h2
    obtain ⟨ad, rfl, g1, g2, g3⟩ := h2
    exact ⟨ad, rfl, g1, g2.ren h hr (hmem ad), hf _ _ h1 g3⟩
  | rows sig l =>
    rw [hc] at h2
    obtain ⟨g0, g1, g2⟩ := h2
    refine ⟨g0, g1, ?_⟩
    rcases g2 with g2 | ⟨ad, rfl, g2, g3, g4⟩
    · exact .inl g2
    · exact .inr ⟨ad, rfl, g2, g3.sub h (hmem ad), hf _ _ h1 g4⟩
theorem nth_mapH (r : Nat → Option Nat) (h : Heap) : ∀ (m : List Nat) (j : Nat), nth (mapH r h m) j = (nth m j).map (fun b => renH r (nth h b))
  | [], _ => rfl
  | _ :: _, 0 => rfl
  | _ :: m, j + 1 => by simpa [mapH, nth] using nth_mapH r h m j
theorem mapH_length (r : Nat → Option Nat) (h : Heap) : ∀ (m : List Nat), (mapH r h m).length = m.length
  | [] => rfl
  | _ :: m => by simp [mapH, mapH_length r h m]
theorem renH_some {r : Nat → Option Nat} {x : Option (Option Obj)} {o : Obj} (h : renH r x = some o) : ∃ q, x = some (some q) ∧ o = renO r q := by
  unfold renH at h
  split at h
  · rename_i q; simp at h; exact ⟨q, rfl, h.symm⟩
  · cases h
theorem mapH_some {r : Nat → Option Nat} {h : Heap} {m : List Nat} {j : Nat} {o : Obj} (ho : nth (mapH r h m) j = some (some o)) : ∃ b q, nth m j = some b ∧ nth h b = some (some q) ∧ o = renO r q := by
  rw [nth_mapH] at ho
  cases hm : nth m j with
  | none => rw [hm] at ho; cases ho
  | some b =>
    rw [hm] at ho
    simp at ho
    obtain ⟨q, h1, h2⟩ := renH_some ho
    exact ⟨b, q, rfl, h1, h2⟩
theorem posN_nth : ∀ (m : List Nat) (b i j : Nat), posN m b i = some j → i ≤ j ∧ nth m (j - i) = some b
  | [], _, _, _, h => by cases h
  | a :: l, b, i, j, h => by
    simp only [posN] at h
    split at h
    · rename_i hb
      simp at h
      subst h
      rw [Nat.eq_of_beq_eq_true hb]
      simp [nth]
    · obtain ⟨h1, h2⟩ := posN_nth l b (i + 1) j h
      refine ⟨by omega, ?_⟩
      rw [show j - i = (j - (i + 1)) + 1 by omega]
      exact h2
def locBase (s : Sit) (m : List Nat) : List (Option Addr × Nat) := m.map fun b => (nth s.base b).getD (none, 0)
theorem nth_locBase {s : Sit} {m : List Nat} {j b : Nat} {x : Option Addr × Nat} (hj : nth m j = some b) (hb : nth s.base b = some x) : nth (locBase s m) j = some x := by
  rw [nth_eq] at hj ⊢
  simp [locBase, hj, hb]
theorem ren_loc {s s1 : Sit} {m : List Nat} (hb : locBase s m <+: s1.base) : Ren s s1 (fun b => posN m b 0) := by
  intro b c x hr hx
  obtain ⟨_, h2⟩ := posN_nth m b 0 c hr
  exact nth_prefix hb (nth_locBase h2 hx)
/-- no two places of the list hold the same -/
def Inj (m : List Nat) : Prop := ∀ j k b, nth m j = some b → nth m k = some b → j = k
theorem loc_ok {s : Sit} {h : Heap} (hh : HRel s h) {m : List Nat} (hm : Inj m) {own hid : Nat → Prop} (h1 : ∀ b, own b → s.own b) (h2 : ∀ b, hid b → s.hid b ∨ s.own b) (h3 : ∀ b, own b → ¬ hid b)
    (h4 : ∀ j b o ad sz, nth m j = some b → nth h b = some (some o) → o.mt = true → nth s.base b = some (some ad, sz) → own ad.block) :
    HRel ⟨s.w, locBase s m, own, hid⟩ (mapH (fun b => posN m b 0) h m) := by
  have hsub : Sub s ⟨s.w, locBase s m, own, hid⟩ := ⟨rfl, fun b hb => ⟨fun ho => hb.1 (h1 b ho), fun hi => by rcases h2 b hi with h | h; exact hb.2.1 h; exact hb.1 h, hb.2.2⟩⟩
  refine ⟨by simp [locBase, mapH_length], ?_, ?_, fun b hb => hh.ownlt b (h1 b hb), fun b hb => by rcases h2 b hb with h | h; exact hh.hidlt b h; exact hh.ownlt b h, h3⟩
  · intro j o ho
    obtain ⟨b, q, hb, hq, rfl⟩ := mapH_some ho
    refine (hh.obj b q hq).ren hsub (ren_loc (List.prefix_refl _)) (fun x hx => nth_locBase hb hx) fun ad sz had hf => ⟨hf.1, ?_⟩
    have hf2 := hf.2
    cases hmt : q.mt with
    | true =>
      rw [hmt] at hf2
      exact ⟨h4 j b q ad sz hb hq hmt had, hf2.2⟩
    | false =>
      rw [hmt] at hf2
      exact fun ho => hf2 (h1 _ ho)
  · intro j k o q a a' z y hj hk ho hq ha ha' haa
    obtain ⟨b, o', hb, ho', rfl⟩ := mapH_some hj
    obtain ⟨c, q', hc, hq', rfl⟩ := mapH_some hk
    rw [renO_mt] at ho hq
    have hb' := (hh.obj b o' ho')
    have hc' := (hh.obj c q' hq')
    obtain ⟨_, _, e1, _⟩ := hb'
    obtain ⟨_, _, e2, _⟩ := hc'
    have f1 := nth_locBase hb e1
    have f2 := nth_locBase hc e2
    simp only at ha ha'
    rw [f1] at ha
    rw [f2] at ha'
    simp at ha ha'
    obtain ⟨rfl, rfl⟩ := ha
    obtain ⟨rfl, rfl⟩ := ha'
    have := hh.inj b c o' q' a a' _ _ ho' hq' ho hq e1 e2 haa
    subst this
    exact hm j k b hb hc

/-! ### 'reach' has no number twice -/
theorem memN_iff : ∀ (l : List Nat) (n : Nat), memN l n = true ↔ n ∈ l
  | [], _ => by simp [memN]
  | a :: l, n => by
    simp only [memN]
    split
    · rename_i h; simp [Nat.eq_of_beq_eq_true h]
    · rename_i h
      rw [memN_iff l n]
      have : n ≠ a := fun e => by subst e; rw [Nat.beq_refl] at h; cases h
      simp [this]
theorem inj_nodup {m : List Nat} (h : m.Nodup) : Inj m := by
  intro j k b hj hk
  rw [nth_eq] at hj hk
  exact (List.getElem?_inj (List.getElem?_eq_some_iff.1 hj).1 h).1 (hj.trans hk.symm)
def Grows (l m : List Nat) : Prop := l <+: m ∧ (l.Nodup → m.Nodup)
theorem Grows.refl (l : List Nat) : Grows l l := ⟨List.prefix_refl _, id⟩
theorem Grows.trans {l m n : List Nat} (h : Grows l m) (h' : Grows m n) : Grows l n := ⟨h.1.trans h'.1, fun x => h'.2 (h.2 x)⟩
theorem addN_grows (l : List Nat) (b : Nat) : Grows l (addN l b) := by
  unfold addN
  split
  · exact .refl l
  · rename_i h
    have hb : b ∉ l := fun hb => by rw [(memN_iff l b).2 hb] at h; cases h
    refine ⟨List.prefix_append _ _, fun hl => ?_⟩
    rw [List.nodup_append]
    refine ⟨hl, by simp, ?_⟩
    intro x hx y hy e
    simp at hy
    subst hy
    exact hb (e ▸ hx)
mutual
theorem refsV_grows (acc : List Nat) : ∀ (a : AV), Grows acc (refsV acc a)
  | .ptr b _ _ => by simpa [refsV] using addN_grows acc b
  | .sl b _ _ _ _ _ _ => by simpa [refsV] using addN_grows acc b
  | .func _ fs cs => by simp only [refsV]; exact (refsL_grows acc fs).trans (refsL_grows _ cs)
  | .agg cs => by simp only [refsV]; exact refsL_grows acc cs
  | .tuple cs => by simp only [refsV]; exact refsL_grows acc cs
  | .undef => by simpa [refsV] using Grows.refl acc
  | .bool _ => by simpa [refsV] using Grows.refl acc
  | .int _ _ => by simpa [refsV] using Grows.refl acc
  | .nilp => by simpa [refsV] using Grows.refl acc
  | .nils => by simpa [refsV] using Grows.refl acc
  | .nilf => by simpa [refsV] using Grows.refl acc
  | .ro _ _ => by simpa [refsV] using Grows.refl acc
  | .arr _ _ => by simpa [refsV] using Grows.refl acc
theorem refsL_grows (acc : List Nat) : ∀ (l : List AV), Grows acc (refsL acc l)
  | [] => by simpa [refsL] using Grows.refl acc
  | a :: l => by simp only [refsL]; exact (refsV_grows acc a).trans (refsL_grows _ l)
end
theorem refsO_grows (h : Heap) (acc : List Nat) (b : Nat) : Grows acc (refsO h acc b) := by
  unfold refsO
  split
  · split
    · exact refsL_grows _ _
    · exact .refl _
  · exact .refl _
theorem reach_grows (h : Heap) : ∀ (n i : Nat) (acc : List Nat), Grows acc (reach h n i acc)
  | 0, _, acc => .refl acc
  | n + 1, i, acc => by
    simp only [reach]
    split
    · exact (refsO_grows h acc _).trans (reach_grows h n (i + 1) _)
    · exact .refl acc
theorem iota_eq : ∀ (n i : Nat), iota n i = List.range' i n
  | 0, _ => rfl
  | n + 1, i => by simp [iota, iota_eq n (i + 1), List.range'_succ]
theorem iota_nodup (n i : Nat) : (iota n i).Nodup := by rw [iota_eq]; exact List.nodup_range'
/-- objects left out, the first k in their places -/
theorem gc_ok {s : Sit} {h : Heap} (hh : HRel s h) {m : List Nat} (hm : m.Nodup) : HRel ⟨s.w, locBase s m, s.own, s.hid⟩ (mapH (fun b => posN m b 0) h m) ∧ Sub s ⟨s.w, locBase s m, s.own, s.hid⟩ := by
  refine ⟨loc_ok hh (inj_nodup hm) (fun _ h => h) (fun _ h => .inl h) hh.apart fun j b o ad sz hj ho hmt hb => ?_, rfl, fun _ h => h⟩
  have := ((hh.obj b o ho).block hb).1.2
  rw [hmt] at this
  exact this.1
theorem locBase_keep {s : Sit} {m : List Nat} {k : Nat} (hk : k ≤ s.base.length) (hm : iota k 0 <+: m) : s.base.take k <+: locBase s m := by
  obtain ⟨t, rfl⟩ := hm
  refine ⟨locBase s t, ?_⟩
  unfold locBase
  rw [List.map_append]
  congr 1
  apply List.ext_getElem?
  intro j
  rw [iota_eq, List.getElem?_map, List.getElem?_take]
  by_cases hj : j < k
  · rw [if_pos hj, List.getElem?_range' hj]
    simp only [Option.map_some, Nat.zero_add, Nat.one_mul, nth_eq]
    rw [List.getElem?_eq_getElem (by omega)]
    rfl
  · rw [if_neg hj, List.getElem?_eq_none (by simpa using hj)]
    rfl
end Go.Sy
