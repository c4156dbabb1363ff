/- Put together by a program of this work out of its texts SyR, SyS. -/
import Derived.Test.YtlgmbpnlakjefaaDoorM6
section
/- Soundness: objects renumbered, some left out. -/
namespace Go.Sy
set_option linter.unusedSimpArgs false
set_option linter.unusedVariables false
set_option linter.unusedSectionVars false

/-- the same world, seen from another situation -/
structure Sub (s s1 : Sit) : Prop where
  w : s1.w = s.w
  ok : ∀ b, s.ok b → s1.ok b
theorem DRel.sub {s s1 : Sit} (h : Sub s s1) {k : Kd} {d : D} {v : Value} (hd : DRel s k d v) : DRel s1 k d v := by
  induction hd with
  | int k n => exact .int k n
  | bool b => exact .bool b
  | nil sig a cap h0 h' => exact .nil sig a cap h0 (h'.imp id fun ⟨b, o, t, m, h1, h2, h3, h4⟩ => ⟨b, o, t, m, h1, h.ok _ h2, by rw [h.w]; exact h3, h4⟩)
  | sl sig rows blk off cap val hok hz hne hcap hsh hl hc _ ih =>
    exact .sl sig rows blk off cap val (h.ok _ hok) hz hne hcap (hsh.imp fun t g => g.imp fun m g => ⟨by rw [h.w]; exact g.1, g.2⟩) hl (fun i j r k d h1 h2 h3 => by rw [h.w]; exact hc i j r k d h1 h2 h3) ih
theorem DIn.sub {s s1 : Sit} (h : Sub s s1) {sig : List Kd} {g g' : Nat → Option Value} {rows : List (List D)} (hd : DIn s sig g rows) (hg : ∀ n, g' n = g n) : DIn s1 sig g' rows :=
  ⟨hd.1, fun i j r k d h1 h2 h3 => let ⟨v, hv, hr⟩ := hd.2 i j r k d h1 h2 h3; ⟨v, by rw [hg]; exact hv, hr.sub h⟩⟩
def Ren (s s1 : Sit) (r : Nat → Option Nat) : Prop := ∀ b c x, r b = some c → nth s.base b = some x → nth s1.base c = some x
theorem Ren.place {s s1 : Sit} {r : Nat → Option Nat} (hr : Ren s s1 r) {b c i f : Nat} {ad : Addr} (hb : r b = some c) (h : s.place b i f ad) : s1.place c i f ad := by
  obtain ⟨a, z, h1, h2⟩ := h
  exact ⟨a, z, hr _ _ _ hb h1, h2⟩
mutual
theorem VRel.ren {s s1 : Sit} (h : Sub s s1) {r : Nat → Option Nat} (hr : Ren s s1 r) : ∀ (a : AV) (v : Value), VRel s a v → VRel s1 (renV r a) v
  | .undef, _, _ => by simp [renV, VRel]
  | .bool b, v, hv => by simpa [renV, VRel] using hv
  | .int k n, v, hv => by simpa [renV, VRel] using hv
  | .nilp, v, hv => by simpa [renV, VRel] using hv
  | .nils, v, hv => by simpa [renV, VRel] using hv
  | .nilf, v, hv => by simpa [renV, VRel] using hv
  | .gp g i, v, hv => by simpa only [renV, VRel] using hv
  | .ptr b i f, v, hv => by
    simp only [renV]
    split
    · rename_i c hc
      simp only [VRel] at hv ⊢
      obtain ⟨ad, h1, h2⟩ := hv
      exact ⟨ad, hr.place hc h1, h2⟩
    · simp [VRel]
  | .sl b i f z n c ex, v, hv => by
    simp only [renV]
    split
    · rename_i d hd
      simp only [VRel] at hv ⊢
      obtain ⟨a, cap, h1, h2, h3, h4, h5, h6, h7⟩ := hv
      obtain ⟨x, hx⟩ := nth_of_lt h6
      refine ⟨a, cap, h1, h2, h3, h4, h5, nth_some_lt (hr _ _ _ hd hx), ?_⟩
      rcases h7 with h7 | ⟨ad, ha, hp, t, m, hs, hm⟩
      · exact .inl h7
      · exact .inr ⟨ad, ha, hr.place hd hp, t, m, by rw [h.w]; exact hs, hm⟩
    · simp [VRel]
  | .ro sig l, v, hv => by simp only [renV, VRel] at hv ⊢; exact hv.sub h
  | .func fn fs cs, v, hv => by
    simp only [renV, VRel] at hv ⊢
    obtain ⟨a, b, h1, h2, h3⟩ := hv
    exact ⟨a, b, h1, VRels.ren h hr _ _ h2, VRels.ren h hr _ _ h3⟩
  | .agg cs, v, hv => by
    simp only [renV, VRel] at hv ⊢
    obtain ⟨a, h1, h2⟩ := hv
    exact ⟨a, h1, VRels.ren h hr _ _ h2⟩
  | .arr sig l, v, hv => by
    simp only [renV, VRel] at hv ⊢
    obtain ⟨a, h1, h2, h0, h3⟩ := hv
    exact ⟨a, h1, h2, h0, h3.sub h fun _ => rfl⟩
  | .tuple cs, v, hv => by
    simp only [renV, VRel] at hv ⊢
    obtain ⟨a, h1, h2⟩ := hv
    exact ⟨a, h1, VRels.ren h hr _ _ h2⟩
theorem VRels.ren {s s1 : Sit} (h : Sub s s1) {r : Nat → Option Nat} (hr : Ren s s1 r) : ∀ (l : List AV) (vs : List Value), VRels s l vs → VRels s1 (renL r l) vs
  | [], vs, hv => by simpa [renL, VRels] using hv
  | a :: l, vs, hv => by
    simp only [renL, VRels] at hv ⊢
    obtain ⟨v, u, h1, h2, h3⟩ := hv
    exact ⟨v, u, h1, VRel.ren h hr _ _ h2, VRels.ren h hr _ _ h3⟩
end
theorem nth_renL (r : Nat → Option Nat) : ∀ (l : List AV) (j : Nat), nth (renL r l) j = (nth l j).map (renV r)
  | [], _ => rfl
  | _ :: _, 0 => rfl
  | _ :: l, j + 1 => by simpa [renL, nth] using nth_renL r l j
theorem CellsIn.ren {s s1 : Sit} (h : Sub s s1) {r : Nat → Option Nat} (hr : Ren s s1 r) {g g' : Nat → Option Value} {l : List AV} (hc : CellsIn s g l) (hg : ∀ n, g' n = g n) : CellsIn s1 g' (renL r l) := by
  intro j a ha
  rw [nth_renL] at ha
  cases hn : nth l j with
  | none => rw [hn] at ha; cases ha
  | some b =>
    rw [hn] at ha
    simp at ha
    subst ha
    obtain ⟨v, hv, hvr⟩ := hc j b hn
    exact ⟨v, by rw [hg]; exact hv, VRel.ren h hr _ _ hvr⟩
theorem renO_mt (r : Nat → Option Nat) (o : Obj) : (renO r o).mt = o.mt := by unfold renO; split <;> rfl
theorem ORel.ren {s s1 : Sit} (h : Sub s s1) {r : Nat → Option Nat} (hr : Ren s s1 r) {b c : Nat} {o : Obj} (ho : ORel s b o) (hb : ∀ x, nth s.base b = some x → nth s1.base c = some x)
    (hf : ∀ ad sz, nth s.base b = some (some ad, sz) → Flags s o.mt ad.block → Flags s1 o.mt ad.block) : ORel s1 c (renO r o) := by
  obtain ⟨ab, sz, h1, h2⟩ := ho
  refine ⟨ab, sz, hb _ h1, ?_⟩
  have hmem : ∀ ad n, s1.mem ad n = s.mem ad n := fun ad n => by simp only [Sit.mem, h.w]
  rw [renO_mt]
  unfold renO
  cases hc : o.c with
  | cells l =>
    rw [hc] at h2
    obtain ⟨ad, rfl, g1, g2, g3⟩ := h2
    exact ⟨ad, rfl, g1, g2.ren h hr (hmem ad), hf _ _ h1 g3⟩
  | rows sig l =>
    rw [hc] at h2
    obtain ⟨g0, g1, g2⟩ := h2
    refine ⟨g0, g1, ?_⟩
    rcases g2 with g2 | ⟨ad, rfl, g2, g3, g4⟩
    · exact .inl g2
    · exact .inr ⟨ad, rfl, g2, g3.sub h (hmem ad), hf _ _ h1 g4⟩
theorem nth_mapH (r : Nat → Option Nat) (h : Heap) : ∀ (m : List Nat) (j : Nat), nth (mapH r h m) j = (nth m j).map (fun b => renH r (nth h b))
  | [], _ => rfl
  | _ :: _, 0 => rfl
  | _ :: m, j + 1 => by simpa [mapH, nth] using nth_mapH r h m j
theorem mapH_length (r : Nat → Option Nat) (h : Heap) : ∀ (m : List Nat), (mapH r h m).length = m.length
  | [] => rfl
  | _ :: m => by simp [mapH, mapH_length r h m]
theorem renH_some {r : Nat → Option Nat} {x : Option (Option Obj)} {o : Obj} (h : renH r x = some o) : ∃ q, x = some (some q) ∧ o = renO r q := by
  unfold renH at h
  split at h
  · rename_i q; simp at h; exact ⟨q, rfl, h.symm⟩
  · cases h
theorem mapH_some {r : Nat → Option Nat} {h : Heap} {m : List Nat} {j : Nat} {o : Obj} (ho : nth (mapH r h m) j = some (some o)) : ∃ b q, nth m j = some b ∧ nth h b = some (some q) ∧ o = renO r q := by
  rw [nth_mapH] at ho
  cases hm : nth m j with
  | none => rw [hm] at ho; cases ho
  | some b =>
    rw [hm] at ho
    simp at ho
    obtain ⟨q, h1, h2⟩ := renH_some ho
    exact ⟨b, q, rfl, h1, h2⟩
theorem posN_nth : ∀ (m : List Nat) (b i j : Nat), posN m b i = some j → i ≤ j ∧ nth m (j - i) = some b
  | [], _, _, _, h => by cases h
  | a :: l, b, i, j, h => by
    simp only [posN] at h
    split at h
    · rename_i hb
      simp at h
      subst h
      rw [Nat.eq_of_beq_eq_true hb]
      simp [nth]
    · obtain ⟨h1, h2⟩ := posN_nth l b (i + 1) j h
      refine ⟨by omega, ?_⟩
      rw [show j - i = (j - (i + 1)) + 1 by omega]
      exact h2
def locBase (s : Sit) (m : List Nat) : List (Option Addr × Nat) := m.map fun b => (nth s.base b).getD (none, 0)
theorem nth_locBase {s : Sit} {m : List Nat} {j b : Nat} {x : Option Addr × Nat} (hj : nth m j = some b) (hb : nth s.base b = some x) : nth (locBase s m) j = some x := by
  rw [nth_eq] at hj ⊢
  simp [locBase, hj, hb]
theorem ren_loc {s s1 : Sit} {m : List Nat} (hb : locBase s m <+: s1.base) : Ren s s1 (fun b => posN m b 0) := by
  intro b c x hr hx
  obtain ⟨_, h2⟩ := posN_nth m b 0 c hr
  exact nth_prefix hb (nth_locBase h2 hx)
/-- no two places of the list hold the same -/
def Inj (m : List Nat) : Prop := ∀ j k b, nth m j = some b → nth m k = some b → j = k
theorem loc_ok {s : Sit} {h : Heap} (hh : HRel s h) {m : List Nat} (hm : Inj m) {own hid : Nat → Prop} (h1 : ∀ b, own b → s.own b) (h2 : ∀ b, hid b → s.hid b ∨ s.own b) (h3 : ∀ b, own b → ¬ hid b)
    (h4 : ∀ j b o ad sz, nth m j = some b → nth h b = some (some o) → o.mt = true → nth s.base b = some (some ad, sz) → own ad.block) :
    HRel ⟨s.w, locBase s m, own, hid⟩ (mapH (fun b => posN m b 0) h m) := by
  have hsub : Sub s ⟨s.w, locBase s m, own, hid⟩ := ⟨rfl, fun b hb => ⟨fun ho => hb.1 (h1 b ho), fun hi => by rcases h2 b hi with h | h; exact hb.2.1 h; exact hb.1 h, hb.2.2⟩⟩
  refine ⟨by simp [locBase, mapH_length], ?_, ?_, fun b hb => hh.ownlt b (h1 b hb), fun b hb => by rcases h2 b hb with h | h; exact hh.hidlt b h; exact hh.ownlt b h, h3, fun g sig rows hg => let ⟨e1, e2, e3⟩ := hh.fix g sig rows hg; ⟨fun ho => e1 (h1 g ho), e2, e3.sub hsub fun _ => rfl⟩⟩
  · intro j o ho
    obtain ⟨b, q, hb, hq, rfl⟩ := mapH_some ho
    refine (hh.obj b q hq).ren hsub (ren_loc (List.prefix_refl _)) (fun x hx => nth_locBase hb hx) fun ad sz had hf => ⟨hf.1, ?_⟩
    have hf2 := hf.2
    cases hmt : q.mt with
    | true =>
      rw [hmt] at hf2
      exact ⟨h4 j b q ad sz hb hq hmt had, hf2.2⟩
    | false =>
      rw [hmt] at hf2
      exact fun ho => hf2 (h1 _ ho)
  · intro j k o q a a' z y hj hk ho hq ha ha' haa
    obtain ⟨b, o', hb, ho', rfl⟩ := mapH_some hj
    obtain ⟨c, q', hc, hq', rfl⟩ := mapH_some hk
    rw [renO_mt] at ho hq
    have hb' := (hh.obj b o' ho')
    have hc' := (hh.obj c q' hq')
    obtain ⟨_, _, e1, _⟩ := hb'
    obtain ⟨_, _, e2, _⟩ := hc'
    have f1 := nth_locBase hb e1
    have f2 := nth_locBase hc e2
    simp only at ha ha'
    rw [f1] at ha
    rw [f2] at ha'
    simp at ha ha'
    obtain ⟨rfl, rfl⟩ := ha
    obtain ⟨rfl, rfl⟩ := ha'
    have := hh.inj b c o' q' a a' _ _ ho' hq' ho hq e1 e2 haa
    subst this
    exact hm j k b hb hc

/-! ### 'reach' has no number twice -/
theorem memN_iff : ∀ (l : List Nat) (n : Nat), memN l n = true ↔ n ∈ l
  | [], _ => by simp [memN]
  | a :: l, n => by
    simp only [memN]
    split
    · rename_i h; simp [Nat.eq_of_beq_eq_true h]
    · rename_i h
      rw [memN_iff l n]
      have : n ≠ a := fun e => by subst e; rw [Nat.beq_refl] at h; cases h
      simp [this]
theorem inj_nodup {m : List Nat} (h : m.Nodup) : Inj m := by
  intro j k b hj hk
  rw [nth_eq] at hj hk
  exact (List.getElem?_inj (List.getElem?_eq_some_iff.1 hj).1 h).1 (hj.trans hk.symm)
def Grows (l m : List Nat) : Prop := l <+: m ∧ (l.Nodup → m.Nodup)
theorem Grows.refl (l : List Nat) : Grows l l := ⟨List.prefix_refl _, id⟩
theorem Grows.trans {l m n : List Nat} (h : Grows l m) (h' : Grows m n) : Grows l n := ⟨h.1.trans h'.1, fun x => h'.2 (h.2 x)⟩
theorem addN_grows (l : List Nat) (b : Nat) : Grows l (addN l b) := by
  unfold addN
  split
  · exact .refl l
  · rename_i h
    have hb : b ∉ l := fun hb => by rw [(memN_iff l b).2 hb] at h; cases h
    refine ⟨List.prefix_append _ _, fun hl => ?_⟩
    rw [List.nodup_append]
    refine ⟨hl, by simp, ?_⟩
    intro x hx y hy e
    simp at hy
    subst hy
    exact hb (e ▸ hx)
mutual
theorem refsV_grows (acc : List Nat) : ∀ (a : AV), Grows acc (refsV acc a)
  | .ptr b _ _ => by simpa [refsV] using addN_grows acc b
  | .sl b _ _ _ _ _ _ => by simpa [refsV] using addN_grows acc b
  | .func _ fs cs => by simp only [refsV]; exact (refsL_grows acc fs).trans (refsL_grows _ cs)
  | .agg cs => by simp only [refsV]; exact refsL_grows acc cs
  | .tuple cs => by simp only [refsV]; exact refsL_grows acc cs
  | .undef => by simpa [refsV] using Grows.refl acc
  | .bool _ => by simpa [refsV] using Grows.refl acc
  | .int _ _ => by simpa [refsV] using Grows.refl acc
  | .nilp => by simpa [refsV] using Grows.refl acc
  | .nils => by simpa [refsV] using Grows.refl acc
  | .nilf => by simpa [refsV] using Grows.refl acc
  | .ro _ _ => by simpa [refsV] using Grows.refl acc
  | .arr _ _ => by simpa [refsV] using Grows.refl acc
  | .gp _ _ => by simpa [refsV] using Grows.refl acc
theorem refsL_grows (acc : List Nat) : ∀ (l : List AV), Grows acc (refsL acc l)
  | [] => by simpa [refsL] using Grows.refl acc
  | a :: l => by simp only [refsL]; exact (refsV_grows acc a).trans (refsL_grows _ l)
end
theorem refsO_grows (h : Heap) (acc : List Nat) (b : Nat) : Grows acc (refsO h acc b) := by
  unfold refsO
  split
  · split
    · exact refsL_grows _ _
    · exact .refl _
  · exact .refl _
theorem reach_grows (h : Heap) : ∀ (n i : Nat) (acc : List Nat), Grows acc (reach h n i acc)
  | 0, _, acc => .refl acc
  | n + 1, i, acc => by
    simp only [reach]
    split
    · exact (refsO_grows h acc _).trans (reach_grows h n (i + 1) _)
    · exact .refl acc
theorem iota_eq : ∀ (n i : Nat), iota n i = List.range' i n
  | 0, _ => rfl
  | n + 1, i => by simp [iota, iota_eq n (i + 1), List.range'_succ]
theorem iota_nodup (n i : Nat) : (iota n i).Nodup := by rw [iota_eq]; exact List.nodup_range'
/-- objects left out, the first k in their places -/
theorem gc_ok {s : Sit} {h : Heap} (hh : HRel s h) {m : List Nat} (hm : m.Nodup) : HRel ⟨s.w, locBase s m, s.own, s.hid⟩ (mapH (fun b => posN m b 0) h m) ∧ Sub s ⟨s.w, locBase s m, s.own, s.hid⟩ := by
  refine ⟨loc_ok hh (inj_nodup hm) (fun _ h => h) (fun _ h => .inl h) hh.apart fun j b o ad sz hj ho hmt hb => ?_, rfl, fun _ h => h⟩
  have := ((hh.obj b o ho).block hb).1.2
  rw [hmt] at this
  exact this.1
theorem locBase_keep {s : Sit} {m : List Nat} {k : Nat} (hk : k ≤ s.base.length) (hm : iota k 0 <+: m) : s.base.take k <+: locBase s m := by
  obtain ⟨t, rfl⟩ := hm
  refine ⟨locBase s t, ?_⟩
  unfold locBase
  rw [List.map_append]
  congr 1
  apply List.ext_getElem?
  intro j
  rw [iota_eq, List.getElem?_map, List.getElem?_take]
  by_cases hj : j < k
  · rw [if_pos hj, List.getElem?_range' hj]
    simp only [Option.map_some, Nat.zero_add, Nat.one_mul, nth_eq]
    rw [List.getElem?_eq_getElem (by omega)]
    rfl
  · rw [if_neg hj, List.getElem?_eq_none (by simpa using hj)]
    rfl
end Go.Sy
end

section
/- Soundness: calls by contract. -/
namespace Go.Sy
set_option linter.unusedSimpArgs false
set_option linter.unusedVariables false
set_option linter.unusedSectionVars false

/-- the contract is kept -/
def Sound (P : Program) (f : FuncId) (C : Con) : Prop :=
  ∀ (s : Sit) (h : Heap) (args : List AV) (vals : List Value) (K : AV → Heap → Prop), HRel s h → VRels s args vals → C args h K →
    Calls P f vals.toArray s.w (fun e w' => ∃ s' v av h', e = .returned v ∧ s'.w = w' ∧ Ev s s' ∧ s.base <+: s'.base ∧ HRel s' h' ∧ VRel s' av v ∧ K av h')
def Callable (P : Program) (f : FuncId) : Prop := ∃ fn, P.funcs[f]? = some fn ∧ (fn.name == "runtime.NumGoroutine") = false ∧ fn.body.isNone = false
def EnvOk (P : Program) (G : Env) : Prop := ∀ f C, G f = some C → Sound P f C ∧ Callable P f

/-! ### lending -/
theorem lent_ok {s : Sit} {h : Heap} (hh : HRel s h) {ad : Addr} {sig : List Kd} {l : Unit → List (List D)} (hsp : ad.spot = none) (hlt : ad.block < s.w.heap.size) (hno : ¬ s.own ad.block) (h0 : 0 < sig.length) (hd : DIn s sig (s.mem ad) (l ())) :
    HRel { s with base := s.base ++ [(some ad, sig.length)] } (h ++ [some ⟨false, .rows sig l⟩]) := by
  have hE : Ev s { s with base := s.base ++ [(some ad, sig.length)] } := ⟨Nat.le_refl _, fun _ _ _ => rfl, fun _ _ => rfl, fun _ h => .inl h, rfl, rfl, rfl⟩
  have hp : s.base <+: { s with base := s.base ++ [(some ad, sig.length)] }.base := List.prefix_append _ _
  have hlen := hh.len
  have old : ∀ j x, nth (h ++ [some (⟨false, .rows sig l⟩ : Obj)]) j = some (some x) → (j < h.length ∧ nth h j = some (some x)) ∨ (j = h.length ∧ x = ⟨false, .rows sig l⟩) := by
    intro j x hx
    rw [nth_append] at hx
    split at hx
    · exact .inl ⟨‹_›, hx⟩
    · have := nth_some_lt hx
      simp at this
      obtain rfl : j = h.length := by omega
      simp [nth] at hx
      exact .inr ⟨rfl, hx.symm⟩
  have bnew : nth (s.base ++ [(some ad, sig.length)]) h.length = some (some ad, sig.length) := by
    rw [nth_append, if_neg (by omega), hlen]; simp [nth]
  have bold : ∀ j, j < h.length → nth (s.base ++ [(some ad, sig.length)]) j = nth s.base j := fun j hj => by
    rw [nth_append, if_pos (by omega)]
  refine ⟨by simp [hlen], ?_, ?_, hh.ownlt, hh.hidlt, hh.apart, hh.fix.ev hE⟩
  · intro j x hx
    rcases old j x hx with ⟨hj, hx⟩ | ⟨rfl, rfl⟩
    · exact (hh.obj j x hx).keep hE hp (fun _ _ _ => rfl) fun _ hb _ _ => hb
    · exact ⟨_, _, bnew, rfl, h0, .inr ⟨ad, rfl, hsp, hd.mono hE fun _ => rfl, hlt, hno⟩⟩
  · intro j k x q a a' z y hj hk hmx hmq ha ha' haa
    rcases old j x hj with ⟨hj1, hj2⟩ | ⟨rfl, rfl⟩
    · rcases old k q hk with ⟨hk1, hk2⟩ | ⟨rfl, rfl⟩
      · simp only [bold j hj1] at ha
        simp only [bold k hk1] at ha'
        exact hh.inj j k x q a a' z y hj2 hk2 hmx hmq ha ha' haa
      · cases hmq
    · cases hmx
theorem lend_some {h : Heap} {a : AV} {o' : Obj} (hl : lend h a = some (some o')) : ∃ b f z n c x o l cs sig, a = .sl b (.l 0) (.l f) z (.l n) c x ∧ nth h b = some (some o) ∧ o.c = .cells l ∧ part l f (n * z) = some cs ∧ sig.length = z ∧ fits sig n cs = true ∧
    o' = ⟨false, .rows sig fun _ => rowsOf z n cs⟩ := by
  unfold lend at hl
  split at hl
  · rename_i b i f z n c x
    split at hl
    · rename_i o ho
      split at hl
      · cases hl
      · rename_i l hc
        split at hl
        · split at hl
          · split at hl
            · split at hl
              · rename_i cs hcs
                split at hl
                · rename_i sig hsig
                  split at hl
                  · rename_i hz
                    split at hl
                    · rename_i hf
                      simp at hl
                      refine ⟨_, _, _, _, _, _, _, _, _, _, rfl, ho, hc, hcs, ?_, hf, hl.symm⟩
                      have := Nat.eq_of_beq_eq_true hz
                      rwa [len_eq] at this
                    · cases hl
                  · cases hl
                · cases hl
              · cases hl
            · cases hl
          · cases hl
        · cases hl
    · cases hl
  · cases hl
theorem Ev.more {s : Sit} (bs : List (Option Addr × Nat)) : Ev s { s with base := s.base ++ bs } := ⟨Nat.le_refl _, fun _ _ _ => rfl, fun _ _ => rfl, fun _ h => .inl h, rfl, rfl, rfl⟩
theorem Sub.more {s s1 : Sit} (h : Sub s s1) (bs : List (Option Addr × Nat)) : Sub s { s1 with base := s1.base ++ bs } := ⟨h.w, h.ok⟩
theorem Ren.more {s s1 : Sit} {r : Nat → Option Nat} (h : Ren s s1 r) (bs : List (Option Addr × Nat)) : Ren s { s1 with base := s1.base ++ bs } r := fun b c x h1 h2 => nth_prefix (List.prefix_append _ _) (h b c x h1 h2)
theorem args_ok {s : Sit} {h : Heap} (hh : HRel s h) {m : List Nat} : ∀ (args : List AV) (vals : List Value) (s1 : Sit) (h1 : Heap), VRels s args vals → lendOk h args = true → Sub s s1 → Ren s s1 (fun b => posN m b 0) →
    (∀ b o ad sz, b ∈ viewIds h args → nth h b = some (some o) → nth s.base b = some (some ad, sz) → ¬ s1.own ad.block) → HRel s1 h1 →
    ∃ bs, HRel { s1 with base := s1.base ++ bs } (h1 ++ lentObjs h args) ∧ bs.length = (lentObjs h args).length ∧ VRels { s1 with base := s1.base ++ bs } (locArgs h m args h1.length) vals
  | [], vals, s1, h1, hv, _, _, _, _, hh1 => ⟨[], by simpa [lentObjs] using hh1, rfl, by simpa [locArgs, VRels] using hv⟩
  | a :: l, vals, s1, h1, hv, hok, hs, hr, hno, hh1 => by
    simp only [VRels] at hv
    obtain ⟨v, vs, rfl, hva, hvl⟩ := hv
    simp only [lendOk] at hok
    split at hok
    · rename_i q hq
      cases q with
      | none =>
        have hview : isView h a = false := by unfold isView; rw [hq]
        have hvi : viewIds h (a :: l) = viewIds h l := by simp only [viewIds, hview]
        rw [hvi] at hno
        obtain ⟨bs, g1, g2, g3⟩ := args_ok hh l vs s1 h1 hvl hok hs hr hno hh1
        refine ⟨bs, by simpa only [lentObjs, hq] using g1, by simpa only [lentObjs, hq] using g2, ?_⟩
        simp only [locArgs, hview, VRels]
        exact ⟨v, vs, rfl, VRel.ren (hs.more bs) (hr.more bs) _ _ hva, g3⟩
      | some o' =>
        have hview : isView h a = true := by unfold isView; rw [hq]
        obtain ⟨b, f, z, n, c, x, o, cl, cs, sig, rfl, ho, hc, hcs, hz, hf, rfl⟩ := lend_some hq
        have hvi : viewIds h (.sl b (.l 0) (.l f) z (.l n) c x :: l) = b :: viewIds h l := by simp only [viewIds, hview]
        rw [hvi] at hno
        obtain ⟨ab, sz, e1, e2⟩ := hh.obj b o ho
        rw [hc] at e2
        obtain ⟨ad, rfl, e3, e4, e5⟩ := e2
        obtain ⟨p1, p2⟩ := part_some hcs
        obtain ⟨ws, w1, w2⟩ := pickVals (s := s) (g := s.mem ad) cs f (fun j a' ha' => by
          refine e4 (f + j) a' ?_
          rw [p2, nth_eq, List.getElem?_take] at ha'
          split at ha'
          · rw [List.getElem?_drop, ← nth_eq] at ha'; exact ha'
          · cases ha')
        obtain ⟨f1, f2, f3⟩ := fits_rel n cs ws hf w1
        have hva' := hva
        simp only [VRel] at hva'
        obtain ⟨aa, cap, rfl, c1, c2, c3, c4, c5, c6⟩ := hva'
        have hblk : ad.block < s.w.heap.size := e5.1
        have hview1 := lent_ok (ad := ⟨ad.block, ad.off + f, none⟩) (sig := sig) (l := fun _ => rowsOf z n cs) hh1 rfl (by rw [hs.w]; exact hblk) (hno b o ad sz (by simp) ho e1) (by omega) (by
          rw [← hz]
          have f3' := f3.sub (g' := fun j => ws[j]?) hs fun _ => rfl
          refine ⟨f3'.1, fun i j r k d q1 q2 q3 => ?_⟩
          obtain ⟨u, hu, hur⟩ := f3'.2 i j r k d q1 q2 q3
          refine ⟨u, ?_, hur⟩
          have := w2 _ u hu
          simp only [Sit.mem, hs.w] at this ⊢
          rw [Nat.add_assoc]
          exact this)
        obtain ⟨bs, g1, g2, g3⟩ := args_ok hh l vs { s1 with base := s1.base ++ [(some (⟨ad.block, ad.off + f, none⟩ : Addr), sig.length)] } _ hvl hok (hs.more _) (hr.more _) (fun b' o' ad' sz' hb' => hno b' o' ad' sz' (List.mem_cons_of_mem _ hb')) hview1
        refine ⟨(some (⟨ad.block, ad.off + f, none⟩ : Addr), sig.length) :: bs, ?_, ?_, ?_⟩
        · simpa only [lentObjs, hq, List.append_assoc, List.cons_append, List.nil_append] using g1
        · simp only [lentObjs, hq, List.length_cons, g2]
        · simp only [locArgs, hview, VRels]
          refine ⟨_, vs, rfl, ?_, ?_⟩
          · simp only [VRel]
            refine ⟨aa, cap, rfl, c1, c2, c3, c4, by simp [hh1.len], ?_⟩
            rcases c6 with c6 | ⟨ad1, ha1, hp1, t, mm, hs1, hm1⟩
            · exact .inl c6
            · refine .inr ⟨ad1, ha1, ⟨⟨ad.block, ad.off + f, none⟩, sig.length, ?_, rfl, ?_⟩, t, mm, by rw [hs.w]; exact hs1, hm1⟩
              · rw [nth_append, if_neg (by rw [hh1.len]; omega), hh1.len]; simp [nth]
              · obtain ⟨a2, z2, k1, k2, k3⟩ := hp1
                rw [e1] at k1
                simp at k1
                obtain ⟨rfl, rfl⟩ := k1
                rw [k3]
                simp [zv, NX.v]
          · have : (h1 ++ [some (⟨false, .rows sig fun _ => rowsOf z n cs⟩ : Obj)]).length = h1.length + 1 := by simp
            rw [this] at g3
            simpa only [List.append_assoc, List.cons_append, List.nil_append] using g3
    · cases hok
/-! ### back again -/
theorem putBack_length (r : Nat → Option Nat) (h' : Heap) : ∀ (m : List Nat) (j : Nat) (h : Heap), (putBack r h' m j h).length = h.length
  | [], _, _ => rfl
  | b :: m, j, h => by
    simp only [putBack]
    split <;> simp [putBack_length r h' m, upd_eq]
theorem putBack_other (r : Nat → Option Nat) (h' : Heap) : ∀ (m : List Nat) (j : Nat) (h : Heap) (b : Nat), b ∉ m → nth (putBack r h' m j h) b = nth h b
  | [], _, _, _, _ => rfl
  | c :: m, j, h, b, hb => by
    simp at hb
    simp only [putBack]
    split
    · exact putBack_other r h' m (j + 1) h b hb.2
    · rw [putBack_other r h' m (j + 1) _ b hb.2, nth_upd, if_neg (fun e => hb.1 e.symm)]
theorem isRo_iff {x : Option (Option Obj)} {o : Obj} (h : x = some (some o)) : isRo x = true ↔ o.mt = false := by
  subst h; unfold isRo; simp only; split <;> simp_all
theorem nth_putBack (r : Nat → Option Nat) (h' : Heap) : ∀ (m : List Nat) (j : Nat) (h : Heap) (b : Nat) (x : Obj), m.Nodup → nth (putBack r h' m j h) b = some (some x) →
    ((b ∉ m ∨ x.mt = false) ∧ nth h b = some (some x)) ∨ ∃ i, nth m i = some b ∧ renM r (nth h' (j + i)) = some x
  | [], _, h, b, x, _, hx => .inl ⟨.inl (by simp), hx⟩
  | c :: m, j, h, b, x, hm, hx => by
    simp only [putBack] at hx
    rw [List.nodup_cons] at hm
    split at hx
    · rename_i hro
      rcases nth_putBack r h' m (j + 1) _ b x hm.2 hx with ⟨h1, h2⟩ | ⟨i, h1, h2⟩
      · refine .inl ⟨?_, h2⟩
        by_cases e : c = b
        · subst e
          exact .inr ((isRo_iff h2).1 hro)
        · rcases h1 with h1 | h1
          · exact .inl (by simp [h1]; exact fun e' => e e'.symm)
          · exact .inr h1
      · exact .inr ⟨i + 1, by simpa [nth] using h1, by rw [← h2]; congr 2; omega⟩
    · rename_i hro
      rcases nth_putBack r h' m (j + 1) _ b x hm.2 hx with ⟨h1, h2⟩ | ⟨i, h1, h2⟩
      · rw [nth_upd] at h2
        split at h2
        · rename_i e
          subst e
          refine .inr ⟨0, rfl, ?_⟩
          cases hn : nth h c <;> rw [hn] at h2 <;> simp at h2
          exact h2
        · rename_i e
          refine .inl ⟨?_, h2⟩
          rcases h1 with h1 | h1
          · exact .inl (by simp [h1]; exact fun e' => e e'.symm)
          · exact .inr h1
      · exact .inr ⟨i + 1, by simpa [nth] using h1, by rw [← h2]; congr 2; omega⟩
theorem newOnes_length (r : Nat → Option Nat) (h' : Heap) : ∀ (n j : Nat), (newOnes r h' n j).length = n
  | 0, _ => rfl
  | n + 1, j => by simp [newOnes, newOnes_length r h' n]
theorem nth_newOnes (r : Nat → Option Nat) (h' : Heap) : ∀ (n j i : Nat) (x : Option Obj), nth (newOnes r h' n j) i = some x → x = renM r (nth h' (j + i)) ∧ i < n
  | 0, _, i, x, hx => by simp [newOnes, nth] at hx
  | n + 1, j, 0, x, hx => by simp [newOnes, nth] at hx; exact ⟨by rw [← hx]; rfl, by omega⟩
  | n + 1, j, i + 1, x, hx => by
    obtain ⟨h1, h2⟩ := nth_newOnes r h' n (j + 1) i x (by simpa [newOnes, nth] using hx)
    exact ⟨by rw [h1]; congr 2; omega, by omega⟩
theorem renM_some {r : Nat → Option Nat} {x : Option (Option Obj)} {o : Obj} (h : renM r x = some o) : ∃ q, x = some (some q) ∧ q.mt = true ∧ o = renO r q := by
  unfold renM at h
  split at h
  · rename_i q
    split at h
    · rename_i hq; simp at h; exact ⟨q, rfl, hq, h.symm⟩
    · cases h
  · cases h
theorem below_spec {n : Nat} : ∀ {m : List Nat}, below n m = true → ∀ b ∈ m, b < n
  | [], _, b, hb => by cases hb
  | a :: l, h, b, hb => by
    simp only [below] at h
    split at h
    · rename_i ha
      rcases List.mem_cons.1 hb with rfl | hb
      · exact Nat.le_of_ble_eq_true ha
      · exact below_spec h b hb
    · cases h
theorem nodupN_spec : ∀ {m : List Nat}, nodupN m = true → m.Nodup
  | [], _ => by simp
  | a :: l, h => by
    simp only [nodupN] at h
    split at h
    · cases h
    · rename_i ha
      rw [List.nodup_cons]
      exact ⟨(fun hm => by rw [(memN_iff l a).2 hm] at ha; cases ha), nodupN_spec h⟩
theorem anyIn_false {m : List Nat} : ∀ {l : List Nat}, anyIn l m = false → ∀ b ∈ l, b ∉ m
  | [], _, b, hb => by cases hb
  | a :: l, h, b, hb => by
    simp only [anyIn] at h
    split at h
    · cases h
    · rename_i ha
      rcases List.mem_cons.1 hb with rfl | hb
      · exact fun hm => by rw [(memN_iff m b).2 hm] at ha; cases ha
      · exact anyIn_false h b hb
theorem callOk_spec {h : Heap} {m : List Nat} {args : List AV} (hc : callOk h m args = true) : lendOk h args = true ∧ (∀ b ∈ m, b < h.length) ∧ m.Nodup ∧ ∀ b ∈ viewIds h args, b ∉ m := by
  unfold callOk at hc
  split at hc
  · rename_i h1
    split at hc
    · rename_i h2
      split at hc
      · rename_i h3
        split at hc
        · cases hc
        · rename_i h4
          have := below_spec h2
          rw [len_eq] at this
          exact ⟨h1, this, nodupN_spec h3, anyIn_false h4⟩
      · cases hc
    · cases hc
  · cases hc
/-- the blocks that a callee owns: those of the objects handed over -/
def ownLoc (s : Sit) (h : Heap) (m : List Nat) (b : Nat) : Prop := s.own b ∧ ∃ j o ad sz, j ∈ m ∧ nth h j = some (some o) ∧ o.mt = true ∧ nth s.base j = some (some ad, sz) ∧ ad.block = b
/-- the situation behind a call -/
def Sit.after (s s2 : Sit) (own1 : Nat → Prop) (k : Nat) : Sit := ⟨s2.w, s.base ++ s2.base.drop k, fun b => s2.own b ∨ (s.own b ∧ ¬ own1 b), s.hid⟩
theorem nth_mem {α : Type} {l : List α} {i : Nat} {a : α} (h : nth l i = some a) : a ∈ l := by rw [nth_eq] at h; exact List.mem_of_getElem? h
theorem mem_nth {α : Type} {l : List α} {a : α} (h : a ∈ l) : ∃ i, nth l i = some a := by
  obtain ⟨i, hi⟩ := List.mem_iff_getElem?.1 h
  exact ⟨i, by rw [nth_eq]; exact hi⟩
theorem touch_mem : ∀ {m : List Nat} {b : Nat}, b ∈ m → (Tch.obj b) ∈ touchAll m
  | a :: l, b, h => by
    rcases List.mem_cons.1 h with e | h
    · rw [e]; exact List.mem_cons_self
    · exact List.mem_cons_of_mem _ (touch_mem h)
theorem call_sound {P : Program} {f : FuncId} {C : Con} (hS : Sound P f C) {s : Sit} {h : Heap} (hh : HRel s h) {args : List AV} {vals : List Value} (hv : VRels s args vals) {K : AV → Heap → List Tch → Prop} (hc : eCall C args h K) :
    Calls P f vals.toArray s.w (fun e w' => ∃ s' v av h' tc, e = .returned v ∧ s'.w = w' ∧ Ev s s' ∧ s.base <+: s'.base ∧ HRel s' h' ∧ VRel s' av v ∧ Un s s' h h' tc ∧ K av h' tc) := by
  unfold eCall at hc
  simp only at hc
  generalize hm : reach h (len h) 0 (refsL [] (plainArgs h args)) = m at hc
  split at hc
  · exact hc.elim
  · rename_i hok
    obtain ⟨k1, k2, k3, k4⟩ := callOk_spec hok
    simp only [len_eq] at hc
    have hown1 : ∀ b, ownLoc s h m b → s.own b := fun b hb => hb.1
    have hh1 := loc_ok hh (inj_nodup k3) (own := ownLoc s h m) (hid := fun b => s.hid b ∨ (s.own b ∧ ¬ ownLoc s h m b)) hown1 (fun b hb => by rcases hb with hb | hb; exact .inl hb; exact .inr hb.1)
      (fun b ho hi => by rcases hi with hi | hi; exact hh.apart b (hown1 b ho) hi; exact hi.2 ho)
      (fun j b o ad sz hj ho hmt hb => by
        have := ((hh.obj b o ho).block hb).1.2
        rw [hmt] at this
        exact ⟨this.1, b, o, ad, sz, nth_mem hj, ho, hmt, hb, rfl⟩)
    have hsub1 : Sub s ⟨s.w, locBase s m, ownLoc s h m, fun b => s.hid b ∨ (s.own b ∧ ¬ ownLoc s h m b)⟩ :=
      ⟨rfl, fun b hb => ⟨fun ho => hb.1 ho.1, fun hi => by rcases hi with hi | hi; exact hb.2.1 hi; exact hb.1 hi.1, hb.2.2⟩⟩
    obtain ⟨bs, g1, g2, g3⟩ := args_ok hh args vals _ _ hv k1 hsub1 (ren_loc (m := m) (List.prefix_refl _)) (fun b o ad sz hb ho hbase hown => by
      obtain ⟨hso, j, o', ad', sz', hj, ho', hmt', hb', hblk⟩ := hown
      have hmt : o.mt = true := by
        have := ((hh.obj b o ho).block hbase).1.2
        cases hmt : o.mt with
        | true => rfl
        | false => rw [hmt] at this; exact absurd hso this
      have := hh.inj j b o' o ad' ad sz' sz ho' ho hmt' hmt hb' hbase hblk
      subst this
      exact k4 j hb hj) hh1
    rw [mapH_length] at g3
    have hcall := hS _ _ _ _ _ g1 g3 hc
    refine Calls.mono hcall ?_
    rintro e w' ⟨s2, v, av, h2, rfl, rfl, hE, hp, hh2, hvr, hK⟩
    -- names
    have hbl : (locBase s m).length = m.length := by simp [locBase]
    have hlen1 : (locBase s m ++ bs).length = m.length + (lentObjs h args).length := by rw [List.length_append, hbl, g2]
    have hlen2 : s2.base.length = h2.length := hh2.len
    have hge : m.length + (lentObjs h args).length ≤ h2.length := by
      obtain ⟨t, ht⟩ := hp
      rw [← hlen2, ← ht, List.length_append, hlen1]
      omega
    have hEown : ∀ b, s2.own b → ownLoc s h m b ∨ s.w.heap.size ≤ b := hE.own
    have hhid2 : ∀ b, s2.hid b ↔ (s.hid b ∨ (s.own b ∧ ¬ ownLoc s h m b)) := fun b => by rw [hE.hid]
    let s' := s.after s2 (ownLoc s h m) (m.length + (lentObjs h args).length)
    have hE' : Ev s s' := ⟨hE.size, fun b hb ho => hE.keep b hb fun ho' => ho ho'.1, hE.shape, fun b hb => by
      rcases hb with hb | hb
      · rcases hEown b hb with h | h
        · exact .inl h.1
        · exact .inr h
      · exact .inl hb.1, rfl, hE.wos, hE.wout⟩
    have hp' : s.base <+: s'.base := List.prefix_append _ _
    have hsub2 : Sub s2 s' := ⟨rfl, fun b hb => ⟨fun ho => by
        rcases ho with ho | ho
        · exact hb.1 ho
        · exact hb.2.1 ((hhid2 b).2 (.inr ho)), fun hi => hb.2.1 ((hhid2 b).2 (.inl hi)), hb.2.2⟩⟩
    generalize hr : (fun j => match Nat.blt j m.length with
            | true => nth m j
            | false => match Nat.blt j (m.length + (lentObjs h args).length) with | true => (none : Option Nat) | false => some (h.length + (j - (m.length + (lentObjs h args).length)))) = r at hK
    have hr1 : ∀ j, j < m.length → r j = nth m j := fun j hj => by
      rw [← hr]
      have : Nat.blt j m.length = true := Nat.ble_eq_true_of_le hj
      simp only [this]
    have hblt : ∀ {a b : Nat}, ¬ a < b → Nat.blt a b = false := fun {a b} hn => by
      cases hb : Nat.blt a b
      · rfl
      · exact absurd (Nat.le_of_ble_eq_true hb) hn
    have hr2 : ∀ j, ¬ j < m.length → j < m.length + (lentObjs h args).length → r j = none := fun j h1 h2 => by
      rw [← hr]
      have e1 : Nat.blt j (m.length + (lentObjs h args).length) = true := Nat.ble_eq_true_of_le h2
      simp only [hblt h1, e1]
    have hr3 : ∀ j, ¬ j < m.length + (lentObjs h args).length → r j = some (h.length + (j - (m.length + (lentObjs h args).length))) := fun j h1 => by
      rw [← hr]
      simp only [hblt (show ¬ j < m.length by omega), hblt h1]
    have hbase1 : ∀ j b, nth m j = some b → nth s2.base j = nth s.base b := fun j b hj => by
      have hb := k2 b (nth_mem hj)
      obtain ⟨x, hx⟩ := nth_of_lt (l := s.base) (i := b) (by rw [hh.len]; exact hb)
      rw [hx]
      refine nth_prefix hp ?_
      exact nth_prefix (List.prefix_append _ _) (nth_locBase hj hx)
    have hbase3 : ∀ j, nth s'.base (h.length + j) = nth s2.base (m.length + (lentObjs h args).length + j) := fun j => by
      show nth (s.base ++ s2.base.drop _) _ = _
      rw [nth_append, if_neg (by rw [hh.len]; omega), hh.len, nth_eq, List.getElem?_drop, nth_eq]
      congr 1; omega
    have hren : Ren s2 s' r := by
      intro j c x hj hx
      by_cases h1 : j < m.length
      · rw [hr1 j h1] at hj
        refine nth_prefix hp' ?_
        rw [← hbase1 j c hj]; exact hx
      · by_cases h2 : j < m.length + (lentObjs h args).length
        · rw [hr2 j h1 h2] at hj; cases hj
        · rw [hr3 j h2] at hj
          simp at hj
          subst hj
          rw [hbase3, show m.length + (lentObjs h args).length + (j - (m.length + (lentObjs h args).length)) = j by omega]
          exact hx
    -- what stands where
    have what : ∀ b x, nth (putBack r h2 m 0 h ++ newOnes r h2 (h2.length - (m.length + (lentObjs h args).length)) (m.length + (lentObjs h args).length)) b = some (some x) →
        ((b ∉ m ∨ x.mt = false) ∧ nth h b = some (some x)) ∨ ∃ j q, r j = some b ∧ nth h2 j = some (some q) ∧ q.mt = true ∧ x = renO r q := by
      intro b x hx
      rw [nth_append, putBack_length] at hx
      split at hx
      · rcases nth_putBack r h2 m 0 h b _ k3 hx with ⟨e1, e2⟩ | ⟨i, e1, e2⟩
        · exact .inl ⟨e1, e2⟩
        · rw [Nat.zero_add] at e2
          obtain ⟨q, q1, q2⟩ := renM_some e2
          exact .inr ⟨i, q, by rw [hr1 i (nth_some_lt e1)]; exact e1, q1, q2⟩
      · rename_i hlt
        obtain ⟨e1, e2⟩ := nth_newOnes r h2 _ _ _ _ hx
        obtain ⟨q, q1, q2⟩ := renM_some e1.symm
        refine .inr ⟨_, q, ?_, q1, q2⟩
        rw [hr3 _ (by omega)]
        congr 1; omega
    have hrinj : ∀ i j b, r i = some b → r j = some b → i = j := by
      intro i j b hi hj
      have small : ∀ i, i < m.length → r i = some b → b < h.length := fun i hi e => by
        rw [hr1 i hi] at e; exact k2 b (nth_mem e)
      have big : ∀ i, ¬ i < m.length → r i = some b → b = h.length + (i - (m.length + (lentObjs h args).length)) ∧ ¬ i < m.length + (lentObjs h args).length := fun i hi e => by
        by_cases h2 : i < m.length + (lentObjs h args).length
        · rw [hr2 i hi h2] at e; cases e
        · rw [hr3 i h2] at e; simp at e; exact ⟨e.symm, h2⟩
      by_cases h1 : i < m.length
      · by_cases h2 : j < m.length
        · rw [hr1 i h1] at hi
          rw [hr1 j h2] at hj
          exact inj_nodup k3 i j b hi hj
        · have := small i h1 hi
          have := big j h2 hj
          omega
      · by_cases h2 : j < m.length
        · have := small j h2 hj
          have := big i h1 hi
          omega
        · have := big i h1 hi
          have := big j h2 hj
          omega
    have hrbase : ∀ j b, r j = some b → ∀ q, nth h2 j = some (some q) → ∃ x, nth s2.base j = some x ∧ nth s'.base b = some x := fun j b hj q hq => by
      obtain ⟨ab, sz, e1, _⟩ := hh2.obj j q hq
      exact ⟨_, e1, hren j b _ hj e1⟩
    -- an object that stayed with the caller: its block is none of the callee's
    have stay : ∀ b x, (b ∉ m ∨ x.mt = false) → nth h b = some (some x) → ∀ ad sz, nth s.base b = some (some ad, sz) → ¬ ownLoc s h m ad.block := by
      intro b x hb hx ad sz hbase hown
      obtain ⟨hso, j, o', ad', sz', hj, ho', hmt', hb', hblk⟩ := hown
      have hmt : x.mt = true := by
        have := ((hh.obj b x hx).block hbase).1.2
        cases hmt : x.mt with
        | true => rfl
        | false => rw [hmt] at this; exact absurd hso this
      rcases hb with hb | hb
      · have := hh.inj j b o' x ad' ad sz' sz ho' hx hmt' hmt hb' hbase hblk
        subst this
        exact hb hj
      · rw [hb] at hmt; cases hmt
    have hblkkeep : ∀ b x, (b ∉ m ∨ x.mt = false) → nth h b = some (some x) → ∀ ad sz, nth s.base b = some (some ad, sz) → s'.w.heap[ad.block]? = s.w.heap[ad.block]? := fun b x hb hx ad sz hbase =>
      hE.keep _ ((hh.obj b x hx).block hbase).1.1 (stay b x hb hx ad sz hbase)
    have hsame : ∀ b x z a, nth h b = some (some x) → nth s'.base b = some (some a, z) → nth s.base b = some (some a, z) := fun b x z a hx ha => by
      obtain ⟨ab, sz, e1, _⟩ := hh.obj b x hx
      have := nth_prefix hp' e1
      rw [ha] at this; simp at this; rw [e1, this.1, this.2]
    -- one that stayed and one that comes back from the callee never share a block
    have cross : ∀ b x, (b ∉ m ∨ x.mt = false) → nth h b = some (some x) → x.mt = true → ∀ j q c, r j = some c → nth h2 j = some (some q) → q.mt = true → ∀ a a' z u, nth s'.base b = some (some a, z) → nth s'.base c = some (some a', u) → a.block ≠ a'.block := by
      intro b x hb hx hmt j q c hj hq hqm a a' z u ha ha' e
      have e1 := hsame b x z a hx ha
      have h1 := stay b x hb hx a z e1
      have h2 := ((hh.obj b x hx).block e1).1.1
      obtain ⟨y1, y2, y3⟩ := hrbase j c hj q hq
      rw [ha'] at y3
      simp at y3
      rw [← y3] at y2
      have h3 := ((hh2.obj j q hq).block y2).1.2
      rw [hqm] at h3
      rw [e] at h1 h2
      rcases hEown _ h3.1 with h | h
      · exact h1 h
      · omega
    refine ⟨s', v, renV r av, _, touchAll m, rfl, rfl, hE', hp', ⟨?_, ?_, ?_, ?_, ?_, ?_, hh.fix.ev hE'⟩, VRel.ren hsub2 hren _ _ hvr, ?_, hK⟩
    · show (s.base ++ s2.base.drop _).length = _
      rw [List.length_append, List.length_append, putBack_length, newOnes_length, List.length_drop, hh.len, hlen2]
    · intro b x hx
      rcases what b x hx with ⟨hb, hx⟩ | ⟨j, q, hj, hq, hqm, rfl⟩
      · refine (hh.obj b x hx).keep hE' hp' (hblkkeep b x hb hx) fun bb hbb hmt ⟨ad, sz, hbase, e⟩ => .inr ⟨hbb, ?_⟩
        rw [← e]
        exact stay b x hb hx ad sz hbase
      · obtain ⟨y, y1, y2⟩ := hrbase j b hj q hq
        refine (hh2.obj j q hq).ren hsub2 hren (fun z hz => by rw [y1] at hz; simp at hz; rw [← hz]; exact y2) fun ad sz hbase hf => ⟨hf.1, ?_⟩
        have hf2 := hf.2
        rw [hqm] at hf2 ⊢
        exact ⟨.inl hf2.1, hf2.2⟩
    · intro b c x y a a' z u hb hc hmx hmy ha ha' haa
      rcases what b x hb with ⟨hb1, hb2⟩ | ⟨j, q, hj, hq, hqm, rfl⟩
      · rcases what c y hc with ⟨hc1, hc2⟩ | ⟨i, p, hi, hp2, hpm, rfl⟩
        · exact hh.inj b c x y a a' z u hb2 hc2 hmx hmy (hsame b x z a hb2 ha) (hsame c y u a' hc2 ha') haa
        · exact absurd haa (cross b x hb1 hb2 hmx i p c hi hp2 hpm a a' z u ha ha')
      · rcases what c y hc with ⟨hc1, hc2⟩ | ⟨i, p, hi, hp2, hpm, rfl⟩
        · exact absurd haa.symm (cross c y hc1 hc2 hmy j q b hj hq hqm a' a u z ha' ha)
        · obtain ⟨y1, y2, y3⟩ := hrbase j b hj q hq
          obtain ⟨z1, z2, z3⟩ := hrbase i c hi p hp2
          rw [ha] at y3
          rw [ha'] at z3
          simp at y3 z3
          rw [← y3] at y2
          rw [← z3] at z2
          have := hh2.inj j i q p a a' z u hq hp2 hqm hpm y2 z2 haa
          subst this
          rw [hj] at hi
          simpa using hi
    · intro b hb
      rcases hb with hb | hb
      · exact hh2.ownlt b hb
      · exact Nat.lt_of_lt_of_le (hh.ownlt b hb.1) hE.size
    · exact fun b hb => Nat.lt_of_lt_of_le (hh.hidlt b hb) hE.size
    · intro b hb hi
      rcases hb with hb | hb
      · exact hh2.apart b hb ((hhid2 b).2 (.inl hi))
      · exact hh.apart b hb.1 hi
    · intro t ht hl
      have hb : t.id ∉ m := by
        intro hb
        refine clash_obj (b := t.id) (tc := touchAll m) (t := t) ?_ ht rfl
        exact touch_mem hb
      obtain ⟨o, ho⟩ := hl
      have hlt := nth_some_lt ho
      refine ⟨⟨o, by rw [nth_append, putBack_length, if_pos hlt, putBack_other r h2 m 0 h _ hb]; exact ho⟩, fun a ha => ?_⟩
      have foot : ∀ ad sz, nth s.base t.id = some (some ad, sz) → a.block = ad.block → a.spot = none → s'.w.cell? a = s.w.cell? a := fun ad sz h1 h2 h3 => by
        have := hblkkeep t.id o (.inl hb) ho ad sz h1
        rw [← h2] at this
        have ea : a = ⟨a.block, a.off, none⟩ := by rw [← h3]
        rw [ea]
        exact cell?_congr this _
      cases t with
      | obj b => obtain ⟨ad, sz, h1, h2, h3⟩ := ha; exact foot ad sz h1 h2 h3
      | cel b f n => obtain ⟨ad, sz, h1, h2, h3, _⟩ := ha; exact foot ad sz h1 h2 h3
end Go.Sy
end
