/- The relation between abstract and true states, and that it lasts while owned memory alone is written. -/
import Derived.Test.YtlgmbpnlakjefaaSyC
import Derived.Laws.Cells
import Derived.Laws.IdiomCopy
import Derived.Laws.World
namespace Go.Sy

theorem nth_eq {α : Type} : ∀ (l : List α) (i : Nat), nth l i = l[i]?
  | [], _ => rfl
  | _ :: _, 0 => rfl
  | _ :: l, i + 1 => by simpa [nth] using nth_eq l i
theorem len_eq {α : Type} : ∀ (l : List α), len l = l.length
  | [] => rfl
  | _ :: l => by simp [len, len_eq l]
theorem upd_eq {α : Type} : ∀ (l : List α) (i : Nat) (b : α), upd l i b = l.set i b
  | [], _, _ => rfl
  | _ :: _, 0, _ => rfl
  | a :: l, i + 1, b => by simp [upd, upd_eq l i b]
theorem nth_upd {α : Type} (l : List α) (i j : Nat) (b : α) : nth (upd l i b) j = if i = j then (nth l j).map (fun _ => b) else nth l j := by
  simp only [nth_eq, upd_eq, List.getElem?_set]
  split
  · subst_vars; split <;> simp_all
  · rfl
theorem nth_append {α : Type} (l m : List α) (j : Nat) : nth (l ++ m) j = if j < l.length then nth l j else nth m (j - l.length) := by
  simp only [nth_eq, List.getElem?_append]
theorem nth_some_lt {α : Type} {l : List α} {j : Nat} {a : α} (h : nth l j = some a) : j < l.length := by
  rw [nth_eq] at h; exact (List.getElem?_eq_some_iff.1 h).1
theorem nth_prefix {α : Type} {l m : List α} (h : l <+: m) {j : Nat} {a : α} (hj : nth l j = some a) : nth m j = some a := by
  obtain ⟨t, rfl⟩ := h
  rw [nth_append, if_pos (nth_some_lt hj), hj]

structure Sit where
  w : World
  base : List (Option Addr × Nat)
  own : Nat → Prop
  hid : Nat → Prop
def Sit.ok (s : Sit) (b : Nat) : Prop := ¬ s.own b ∧ ¬ s.hid b ∧ b < s.w.heap.size

inductive DRel (s : Sit) : Kd → D → Value → Prop
  | int (k : IntKind) (n : Int) : DRel s (.int k) (.i n) (.int k n)
  | bool (b : Bool) : DRel s .bool (.b b) (.bool b)
  | nil (sig : List Kd) (a : Option Addr) (cap : Nat) : DRel s (.sl sig) (.s []) (.slice a 0 cap)
  | sl (sig : List Kd) (rows : List (List D)) (blk off cap : Nat) (val : Nat → Nat → Value) : s.ok blk → 0 < sig.length → rows ≠ [] → rows.length ≤ cap →
      (∀ (i : Nat) (r : List D), nth rows i = some r → r.length = sig.length) →
      (∀ (i j : Nat) (r : List D) (k : Kd) (d : D), nth rows i = some r → nth sig j = some k → nth r j = some d → s.w.cell? ⟨blk, off + (i * sig.length + j), none⟩ = some (val i j)) →
      (∀ (i j : Nat) (r : List D) (k : Kd) (d : D), nth rows i = some r → nth sig j = some k → nth r j = some d → DRel s k d (val i j)) →
      DRel s (.sl sig) (.s rows) (.slice (some ⟨blk, off, none⟩) rows.length cap)

def DIn (s : Sit) (sig : List Kd) (g : Nat → Option Value) (rows : List (List D)) : Prop :=
  (∀ (i : Nat) (r : List D), nth rows i = some r → r.length = sig.length) ∧
  ∀ (i j : Nat) (r : List D) (k : Kd) (d : D), nth rows i = some r → nth sig j = some k → nth r j = some d → ∃ v, g (i * sig.length + j) = some v ∧ DRel s k d v

/-- the address of a place of an object -/
def Sit.place (s : Sit) (b i f : Nat) (ad : Addr) : Prop :=
  ∃ a sz, nth s.base b = some (some a, sz) ∧ a.spot = none ∧ ad = ⟨a.block, a.off + (i * sz + f), none⟩
mutual
def VRel (s : Sit) : AV → Value → Prop
  | .undef, _ => True
  | .bool b, v => v = .bool b.v
  | .int k n, v => v = .int k n.v
  | .nilp, v => v = .pointer none
  | .ptr b i f, v => ∃ ad, s.place b i.v f.v ad ∧ v = .pointer (some ad)
  | .nils, v => v = .slice none 0 0
  | .sl b i f z n c ex, v => ∃ (a : Option Addr) (cap : Nat), v = .slice a n.v cap ∧ n.v ≤ c.v ∧ c.v ≤ cap ∧ (ex = true → cap = c.v) ∧ 0 < z ∧ b < s.base.length ∧
      (cap = 0 ∨ ∃ ad, a = some ad ∧ s.place b i.v f.v ad ∧ ∃ t m, s.w.shape? ad.block = some (t, m) ∧ ad.off + cap * z ≤ m)
  | .ro sig l, v => DRel s (.sl sig) (.s (l ())) v
  | .nilf, v => v = .nilFunc
  | .func fn fs cs, v => ∃ a b, v = .func fn a b ∧ VRels s fs a.toList ∧ VRels s cs b.toList
  | .agg cs, v => ∃ a, v = .agg a ∧ VRels s cs a.toList
  | .arr sig l, v => ∃ a, v = .agg a ∧ a.size = (l ()).length * sig.length ∧ 0 < sig.length ∧ DIn s sig (fun n => a[n]?) (l ())
  | .tuple cs, v => ∃ a, v = .tuple a ∧ VRels s cs a.toList
def VRels (s : Sit) : List AV → List Value → Prop
  | [], vs => vs = []
  | a :: l, vs => ∃ v r, vs = v :: r ∧ VRel s a v ∧ VRels s l r
end

theorem VRels.length {s : Sit} : ∀ {l : List AV} {vs : List Value}, VRels s l vs → vs.length = l.length
  | [], vs, h => by simp [VRels] at h; simp [h]
  | a :: l, vs, h => by
    simp only [VRels] at h
    obtain ⟨v, r, rfl, _, h⟩ := h
    simp [VRels.length h]
theorem VRels.nth {s : Sit} : ∀ {l : List AV} {vs : List Value}, VRels s l vs → ∀ {i a}, nth l i = some a → ∃ v, vs[i]? = some v ∧ VRel s a v
  | [], _, _, i, a, h => by simp [Sy.nth] at h
  | b :: l, vs, h, 0, a, ha => by
    simp only [VRels] at h
    obtain ⟨v, r, rfl, hv, _⟩ := h
    simp only [Sy.nth, Option.some.injEq] at ha
    exact ⟨v, rfl, ha ▸ hv⟩
  | b :: l, vs, h, i + 1, a, ha => by
    simp only [VRels] at h
    obtain ⟨v, r, rfl, _, h⟩ := h
    obtain ⟨u, hu, hr⟩ := VRels.nth h (i := i) (a := a) (by simpa [Sy.nth] using ha)
    exact ⟨u, by simpa using hu, hr⟩
theorem VRels.mk {s : Sit} : ∀ {l : List AV} {vs : List Value}, vs.length = l.length → (∀ i a, Sy.nth l i = some a → ∃ v, vs[i]? = some v ∧ VRel s a v) → VRels s l vs
  | [], vs, h, _ => by simp [VRels]; simpa using h
  | a :: l, [], h, _ => by simp at h
  | a :: l, v :: vs, h, hn => by
    simp only [VRels]
    refine ⟨v, vs, rfl, ?_, VRels.mk (by simpa using h) fun i b hb => ?_⟩
    · obtain ⟨u, hu, hr⟩ := hn 0 a rfl
      simp at hu; exact hu ▸ hr
    · obtain ⟨u, hu, hr⟩ := hn (i + 1) b (by simpa [Sy.nth] using hb)
      exact ⟨u, by simpa using hu, hr⟩
theorem VRels.append {s : Sit} {l m : List AV} {vs us : List Value} (h : VRels s l vs) (h' : VRels s m us) : VRels s (l ++ m) (vs ++ us) := by
  refine VRels.mk (by simp [h.length, h'.length]) fun i a ha => ?_
  rw [nth_append] at ha
  split at ha
  · obtain ⟨v, hv, hr⟩ := h.nth ha
    exact ⟨v, by rw [List.getElem?_append_left (by rw [h.length]; assumption)]; exact hv, hr⟩
  · obtain ⟨v, hv, hr⟩ := h'.nth ha
    exact ⟨v, by rw [List.getElem?_append_right (by rw [h.length]; omega), h.length]; exact hv, hr⟩

def CellsIn (s : Sit) (g : Nat → Option Value) (l : List AV) : Prop := ∀ j a, nth l j = some a → ∃ v, g j = some v ∧ VRel s a v
def Flags (s : Sit) (mt : Bool) (b : Nat) : Prop :=
  b < s.w.heap.size ∧ match mt with
    | true => s.own b ∧ ∀ o, s.w.frozen? ⟨b, o, none⟩ = false
    | false => ¬ s.own b
def Sit.mem (s : Sit) (ad : Addr) (n : Nat) : Option Value := s.w.cell? ⟨ad.block, ad.off + n, none⟩
def ORel (s : Sit) (j : Nat) (o : Obj) : Prop :=
  ∃ ab sz, nth s.base j = some (ab, sz) ∧ match o.c with
    | .cells l => ∃ ad, ab = some ad ∧ ad.spot = none ∧ CellsIn s (s.mem ad) l ∧ Flags s o.mt ad.block
    | .rows sig l => sz = sig.length ∧ 0 < sig.length ∧ ((ab = none ∧ l () = []) ∨ ∃ ad, ab = some ad ∧ ad.spot = none ∧ DIn s sig (s.mem ad) (l ()) ∧ Flags s o.mt ad.block)
structure HRel (s : Sit) (h : Heap) : Prop where
  len : s.base.length = h.length
  obj : ∀ j o, nth h j = some (some o) → ORel s j o
  inj : ∀ j k o q a b z y, nth h j = some (some o) → nth h k = some (some q) → o.mt = true → q.mt = true → nth s.base j = some (some a, z) → nth s.base k = some (some b, y) →
    a.block = b.block → j = k
  ownlt : ∀ b, s.own b → b < s.w.heap.size
  hidlt : ∀ b, s.hid b → b < s.w.heap.size
  apart : ∀ b, s.own b → ¬ s.hid b

/-- From one situation to a later one: what is not owned stays as it was. -/
structure Ev (s s' : Sit) : Prop where
  size : s.w.heap.size ≤ s'.w.heap.size
  keep : ∀ b, b < s.w.heap.size → ¬ s.own b → s'.w.heap[b]? = s.w.heap[b]?
  shape : ∀ b, b < s.w.heap.size → s'.w.shape? b = s.w.shape? b
  own : ∀ b, s'.own b → s.own b ∨ s.w.heap.size ≤ b
  hid : s'.hid = s.hid
  wos : s'.w.os = s.w.os
  wout : s'.w.output = s.w.output
theorem Ev.refl (s : Sit) : Ev s s := ⟨Nat.le_refl _, fun _ _ _ => rfl, fun _ _ => rfl, fun _ h => .inl h, rfl, rfl, rfl⟩
theorem Ev.trans {s s' s'' : Sit} (h : Ev s s') (h' : Ev s' s'') : Ev s s'' where
  size := Nat.le_trans h.size h'.size
  keep b hb ho := by
    rw [h'.keep b (Nat.lt_of_lt_of_le hb h.size) (fun ho' => by
      rcases h.own b ho' with h1 | h1
      · exact ho h1
      · omega)]
    exact h.keep b hb ho
  shape b hb := by rw [h'.shape b (Nat.lt_of_lt_of_le hb h.size)]; exact h.shape b hb
  own b hb := by
    rcases h'.own b hb with h1 | h1
    · exact h.own b h1
    · exact .inr (Nat.le_trans h.size h1)
  hid := by rw [h'.hid, h.hid]
  wos := by rw [h'.wos, h.wos]
  wout := by rw [h'.wout, h.wout]
theorem Ev.ok {s s' : Sit} (h : Ev s s') {b : Nat} (hb : s.ok b) : s'.ok b :=
  ⟨fun ho => by rcases h.own b ho with h1 | h1; exact hb.1 h1; have := hb.2.2; omega, by rw [h.hid]; exact hb.2.1, Nat.lt_of_lt_of_le hb.2.2 h.size⟩
theorem cell?_congr {w w' : World} {b : Nat} (h : w'.heap[b]? = w.heap[b]?) (o : Nat) : w'.cell? ⟨b, o, none⟩ = w.cell? ⟨b, o, none⟩ := by
  simp [World.cell?, h]
theorem frozen?_congr {w w' : World} {b : Nat} (h : w'.heap[b]? = w.heap[b]?) (o : Nat) : w'.frozen? ⟨b, o, none⟩ = w.frozen? ⟨b, o, none⟩ := by
  simp [World.frozen?, h]

theorem DRel.mono {s s' : Sit} (hE : Ev s s') {k : Kd} {d : D} {v : Value} (h : DRel s k d v) : DRel s' k d v := by
  induction h with
  | int k n => exact .int k n
  | bool b => exact .bool b
  | nil sig a cap => exact .nil sig a cap
  | sl sig rows blk off cap val hok hz hne hcap hl hc _ ih =>
    exact .sl sig rows blk off cap val (hE.ok hok) hz hne hcap hl (fun i j r k d h1 h2 h3 => by
      rw [cell?_congr (hE.keep blk hok.2.2 hok.1)]; exact hc i j r k d h1 h2 h3) ih
theorem DIn.mono {s s' : Sit} (hE : Ev s s') {sig : List Kd} {g g' : Nat → Option Value} {rows : List (List D)} (h : DIn s sig g rows)
    (hg : ∀ n, g' n = g n) : DIn s' sig g' rows :=
  ⟨h.1, fun i j r k d h1 h2 h3 => let ⟨v, hv, hd⟩ := h.2 i j r k d h1 h2 h3; ⟨v, by rw [hg]; exact hv, hd.mono hE⟩⟩
theorem Sit.place.mono {s s' : Sit} (hp : s.base <+: s'.base) {b i f : Nat} {ad : Addr} (h : s.place b i f ad) : s'.place b i f ad := by
  obtain ⟨a, z, h1, h2⟩ := h
  exact ⟨a, z, nth_prefix hp h1, h2⟩
theorem shape_lt {w : World} {b : Nat} {x : TypeId × Nat} (h : w.shape? b = some x) : b < w.heap.size := by
  unfold World.shape? at h
  by_cases hb : b < w.heap.size
  · exact hb
  · rw [Array.getElem?_eq_none (by omega)] at h; simp at h
mutual
theorem VRel.mono {s s' : Sit} (hE : Ev s s') (hp : s.base <+: s'.base) : ∀ (a : AV) (v : Value), VRel s a v → VRel s' a v
  | .undef, _, _ => by simp [VRel]
  | .bool b, v, h => by simpa [VRel] using h
  | .int k n, v, h => by simpa [VRel] using h
  | .nilp, v, h => by simpa [VRel] using h
  | .nils, v, h => by simpa [VRel] using h
  | .nilf, v, h => by simpa [VRel] using h
  | .ptr b i f, v, h => by
    simp only [VRel] at h ⊢
    obtain ⟨ad, h1, h2⟩ := h
    exact ⟨ad, h1.mono hp, h2⟩
  | .sl b i f z n c ex, v, h => by
    simp only [VRel] at h ⊢
    obtain ⟨a, cap, h1, h2, h3, h4, h5, h6, h7⟩ := h
    refine ⟨a, cap, h1, h2, h3, h4, h5, Nat.lt_of_lt_of_le h6 (by obtain ⟨t, ht⟩ := hp; rw [← ht]; simp), ?_⟩
    rcases h7 with h7 | ⟨ad, ha, hpl, t, m, hs, hm⟩
    · exact .inl h7
    · exact .inr ⟨ad, ha, hpl.mono hp, t, m, by rw [hE.shape _ (shape_lt hs)]; exact hs, hm⟩
  | .ro sig l, v, h => by simp only [VRel] at h ⊢; exact h.mono hE
  | .func fn fs cs, v, h => by
    simp only [VRel] at h ⊢
    obtain ⟨a, b, h1, h2, h3⟩ := h
    exact ⟨a, b, h1, VRels.mono hE hp _ _ h2, VRels.mono hE hp _ _ h3⟩
  | .agg cs, v, h => by
    simp only [VRel] at h ⊢
    obtain ⟨a, h1, h2⟩ := h
    exact ⟨a, h1, VRels.mono hE hp _ _ h2⟩
  | .arr sig l, v, h => by
    simp only [VRel] at h ⊢
    obtain ⟨a, h1, h2, h0, h3⟩ := h
    exact ⟨a, h1, h2, h0, h3.mono hE fun _ => rfl⟩
  | .tuple cs, v, h => by
    simp only [VRel] at h ⊢
    obtain ⟨a, h1, h2⟩ := h
    exact ⟨a, h1, VRels.mono hE hp _ _ h2⟩
theorem VRels.mono {s s' : Sit} (hE : Ev s s') (hp : s.base <+: s'.base) : ∀ (l : List AV) (vs : List Value), VRels s l vs → VRels s' l vs
  | [], vs, h => by simpa [VRels] using h
  | a :: l, vs, h => by
    simp only [VRels] at h ⊢
    obtain ⟨v, r, h1, h2, h3⟩ := h
    exact ⟨v, r, h1, VRel.mono hE hp _ _ h2, VRels.mono hE hp _ _ h3⟩
end
theorem CellsIn.mono {s s' : Sit} (hE : Ev s s') (hp : s.base <+: s'.base) {g g' : Nat → Option Value} {l : List AV} (h : CellsIn s g l) (hg : ∀ n, g' n = g n) : CellsIn s' g' l :=
  fun j a ha => let ⟨v, hv, hr⟩ := h j a ha; ⟨v, by rw [hg]; exact hv, VRel.mono hE hp _ _ hr⟩
end Go.Sy
