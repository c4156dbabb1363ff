/- Soundness: memory: new objects, loads, stores. -/
import Derived.Test.YtlgmbpnlakjefaaSyJ
namespace Go.Sy
set_option linter.unusedSimpArgs false
set_option linter.unusedVariables false
set_option linter.unusedSectionVars false

def Live (h : Heap) (b : Nat) : Prop := ∃ o, nth h b = some (some o)
def Tch.id : Tch → Nat
  | .obj b => b
  | .cel b _ _ => b
/-- the addresses of a place -/
def Foot (s : Sit) : Tch → Addr → Prop
  | .obj b, a => ∃ ad sz, nth s.base b = some (some ad, sz) ∧ a.block = ad.block ∧ a.spot = none
  | .cel b f n, a => ∃ ad sz, nth s.base b = some (some ad, sz) ∧ a.block = ad.block ∧ a.spot = none ∧ ad.off + f ≤ a.off ∧ a.off < ad.off + f + n
/-- what is not touched stays -/
def Un (s s' : Sit) (h h' : Heap) (tc : List Tch) : Prop :=
  ∀ t, clashes t tc = false → Live h t.id → Live h' t.id ∧ ∀ a, Foot s t a → s'.w.cell? a = s.w.cell? a
theorem Foot.prefix {s s' : Sit} (hp : s.base <+: s'.base) {t : Tch} {a : Addr} (h : Foot s t a) : Foot s' t a := by
  cases t with
  | obj b => obtain ⟨ad, sz, h1, h2⟩ := h; exact ⟨ad, sz, nth_prefix hp h1, h2⟩
  | cel b f n => obtain ⟨ad, sz, h1, h2⟩ := h; exact ⟨ad, sz, nth_prefix hp h1, h2⟩

theorem prefix_refl' {α : Type} (l : List α) : l <+: l := ⟨[], by simp⟩
theorem ORel.keep {s s' : Sit} (hE : Ev s s') (hp : s.base <+: s'.base) {j : Nat} {o : Obj} (h : ORel s j o)
    (hb : ∀ ad sz, nth s.base j = some (some ad, sz) → s'.w.heap[ad.block]? = s.w.heap[ad.block]?) (ho : ∀ b, s.own b → o.mt = true → (∃ ad sz, nth s.base j = some (some ad, sz) ∧ ad.block = b) → s'.own b) : ORel s' j o := by
  obtain ⟨ab, sz, h1, h2⟩ := h
  refine ⟨ab, sz, nth_prefix hp h1, ?_⟩
  have flags : ∀ ad, ab = some ad → Flags s o.mt ad.block → Flags s' o.mt ad.block := by
    rintro ad rfl ⟨g1, g2⟩
    refine ⟨Nat.lt_of_lt_of_le g1 hE.size, ?_⟩
    cases hm : o.mt with
    | true =>
      rw [hm] at g2
      simp only at g2 ⊢
      exact ⟨ho _ g2.1 hm ⟨ad, sz, h1, rfl⟩, fun oo => by rw [frozen?_congr (hb ad sz h1)]; exact g2.2 oo⟩
    | false =>
      rw [hm] at g2
      simp only at g2 ⊢
      intro ho'
      rcases hE.own _ ho' with h3 | h3
      · exact g2 h3
      · omega
  have mem : ∀ ad, ab = some ad → ∀ n, s'.mem ad n = s.mem ad n := by
    rintro ad rfl n
    exact cell?_congr (hb ad sz h1) _
  cases hc : o.c with
  | cells l =>
    rw [hc] at h2
    obtain ⟨ad, rfl, g1, g2, g3⟩ := h2
    exact ⟨ad, rfl, g1, g2.mono hE hp (mem ad rfl), flags ad rfl g3⟩
  | rows sig l =>
    rw [hc] at h2
    obtain ⟨g0, g1, g2⟩ := h2
    refine ⟨g0, g1, ?_⟩
    rcases g2 with g2 | ⟨ad, rfl, g2, g3, g4⟩
    · exact .inl g2
    · exact .inr ⟨ad, rfl, g2, g3.mono hE (mem ad rfl), flags ad rfl g4⟩
/-- a live object's block, if it has one -/
theorem ORel.block {s : Sit} {j : Nat} {o : Obj} (h : ORel s j o) {ad : Addr} {sz : Nat} (hb : nth s.base j = some (some ad, sz)) : Flags s o.mt ad.block ∧ ad.spot = none := by
  obtain ⟨ab, sz', h1, h2⟩ := h
  rw [hb] at h1
  simp at h1
  obtain ⟨rfl, rfl⟩ := h1
  cases hc : o.c with
  | cells l =>
    rw [hc] at h2
    obtain ⟨ad', e, g1, g2, g3⟩ := h2
    simp at e; subst e
    exact ⟨g3, g1⟩
  | rows sig l =>
    rw [hc] at h2
    obtain ⟨g0, g1, g2⟩ := h2
    rcases g2 with ⟨e, _⟩ | ⟨ad', e, g2, g3, g4⟩
    · cases e
    · simp at e; subst e
      exact ⟨g4, g2⟩

/-! ### a new object -/
def szOf : Cont → Nat
  | .cells _ => 0
  | .rows sig _ => sig.length
def Sit.grow (s : Sit) (arr : Array Value) (t : TypeId) (z : Nat) : Sit :=
  ⟨s.w.alloc (.cells arr t), s.base ++ [(some ⟨s.w.heap.size, 0, none⟩, z)], fun b => s.own b ∨ b = s.w.heap.size, s.hid⟩
def ContIn (s : Sit) (arr : Array Value) : Cont → Prop
  | .cells l => VRels s l arr.toList
  | .rows sig l => 0 < sig.length ∧ DIn s sig (fun j => arr[j]?) (l ())
theorem heap_alloc_lt {w : World} {o : Go.Obj} {b : Nat} (h : b < w.heap.size) : (w.alloc o).heap[b]? = w.heap[b]? := by
  show (w.heap.push o)[b]? = _
  rw [Array.getElem?_push, if_neg (by omega)]
theorem shape_congr {w w' : World} {b : Nat} (h : w'.heap[b]? = w.heap[b]?) : w'.shape? b = w.shape? b := by
  simp [World.shape?, h]
theorem grow_ev (s : Sit) (arr : Array Value) (t : TypeId) (z : Nat) : Ev s (s.grow arr t z) where
  size := by simp [Sit.grow]
  keep b hb _ := heap_alloc_lt hb
  shape b hb := shape_congr (heap_alloc_lt hb)
  own b h := by rcases h with h | h; exact .inl h; exact .inr (by omega)
  hid := rfl
  wos := rfl
  wout := rfl
theorem grow_ok {s : Sit} {h : Heap} (hh : HRel s h) {arr : Array Value} {c : Cont} (t : TypeId) (hc : ContIn s arr c) : HRel (s.grow arr t (szOf c)) (h ++ [some ⟨true, c⟩]) := by
  have hE := grow_ev s arr t (szOf c)
  have hp : s.base <+: (s.grow arr t (szOf c)).base := ⟨_, rfl⟩
  have hlen := hh.len
  have old : ∀ j x, nth (h ++ [some (⟨true, c⟩ : Obj)]) j = some (some x) → (j < h.length ∧ nth h j = some (some x)) ∨ (j = h.length ∧ x = ⟨true, c⟩) := by
    intro j x hx
    rw [nth_append] at hx
    split at hx
    · exact .inl ⟨‹_›, hx⟩
    · have := nth_some_lt hx
      simp at this
      obtain rfl : j = h.length := by omega
      simp [nth] at hx
      exact .inr ⟨rfl, hx.symm⟩
  have bnew : nth (s.grow arr t (szOf c)).base h.length = some (some ⟨s.w.heap.size, 0, none⟩, szOf c) := by
    simp only [Sit.grow]
    rw [nth_append, if_neg (by omega), hlen]
    simp [nth]
  have bold : ∀ j, j < h.length → nth (s.grow arr t (szOf c)).base j = nth s.base j := by
    intro j hj
    simp only [Sit.grow]
    rw [nth_append, if_pos (by omega)]
  refine ⟨by simp [Sit.grow, hlen], ?_, ?_, ?_, ?_, ?_⟩
  · intro j x hx
    rcases old j x hx with ⟨hj, hx⟩ | ⟨rfl, rfl⟩
    · refine (hh.obj j x hx).keep hE hp (fun ad sz hb => ?_) fun b hb _ _ => .inl hb
      exact heap_alloc_lt ((hh.obj j x hx).block hb).1.1
    · refine ⟨_, _, bnew, ?_⟩
      have mem : ∀ n, (s.grow arr t (szOf c)).mem ⟨s.w.heap.size, 0, none⟩ n = arr[n]? := fun n => by simp [Sit.mem, Sit.grow]
      have fl : Flags (s.grow arr t (szOf c)) true s.w.heap.size := by
        refine ⟨by simp [Sit.grow], .inr rfl, fun o => by simp [Sit.grow]⟩
      cases c with
      | cells l =>
        refine ⟨_, rfl, rfl, fun j a ha => ?_, fl⟩
        obtain ⟨v, hv, hr⟩ := VRels.nth hc ha
        exact ⟨v, by rw [mem]; simpa using hv, VRel.mono hE hp _ _ hr⟩
      | rows sig l =>
        refine ⟨rfl, hc.1, .inr ⟨_, rfl, rfl, DIn.mono hE hc.2 (fun n => mem n), fl⟩⟩
  · intro j k o q a b z y hj hk hm hm' ha hb hab
    rcases old j o hj with ⟨hj1, hj2⟩ | ⟨rfl, rfl⟩
    · rcases old k q hk with ⟨hk1, hk2⟩ | ⟨rfl, rfl⟩
      · rw [bold j hj1] at ha
        rw [bold k hk1] at hb
        exact hh.inj j k o q a b z y hj2 hk2 hm hm' ha hb hab
      · rw [bold j hj1] at ha
        rw [bnew] at hb
        simp at hb
        have := ((hh.obj j o hj2).block ha).1.1
        rw [hab, ← hb.1] at this
        exact absurd this (by simp)
    · rcases old k q hk with ⟨hk1, hk2⟩ | ⟨rfl, rfl⟩
      · rw [bold k hk1] at hb
        rw [bnew] at ha
        simp at ha
        have := ((hh.obj k q hk2).block hb).1.1
        rw [← hab, ← ha.1] at this
        exact absurd this (by simp)
      · rfl
  · rintro b (hb | rfl)
    · have := hh.ownlt b hb
      simp only [Sit.grow, World.size_alloc]; omega
    · simp [Sit.grow]
  · intro b hb
    have := hh.hidlt b hb
    simp only [Sit.grow, World.size_alloc]; omega
  · rintro b (hb | rfl) hb'
    · exact hh.apart b hb hb'
    · have := hh.hidlt _ hb'; omega
theorem grow_place {s : Sit} {h : Heap} (hh : HRel s h) (arr : Array Value) (t : TypeId) (z : Nat) : (s.grow arr t z).place (len h) 0 0 ⟨s.w.heap.size, 0, none⟩ := by
  refine ⟨⟨s.w.heap.size, 0, none⟩, z, ?_, rfl, by simp⟩
  simp only [Sit.grow]
  rw [len_eq, nth_append, hh.len, if_neg (by omega)]
  simp [nth]
theorem grow_un {s : Sit} {h : Heap} (hh : HRel s h) (arr : Array Value) (t : TypeId) (z : Nat) (o : Option Obj) (tc : List Tch) : Un s (s.grow arr t z) h (h ++ [o]) tc := by
  intro x _ hl
  obtain ⟨ob, ho⟩ := hl
  refine ⟨⟨ob, by rw [nth_append, if_pos (nth_some_lt ho)]; exact ho⟩, fun a ha => ?_⟩
  have : a.block < s.w.heap.size := by
    cases x with
    | obj b =>
      obtain ⟨ad, sz, h1, h2, _⟩ := ha
      rw [h2]; exact ((hh.obj b ob ho).block h1).1.1
    | cel b f n =>
      obtain ⟨ad, sz, h1, h2, _⟩ := ha
      rw [h2]; exact ((hh.obj b ob ho).block h1).1.1
  exact World.cell?_alloc_lt _ _ _ this

/-! ### cells written -/
theorem heap_setCells {b b' : Nat} (hb : b' ≠ b) : ∀ (vs : List Value) (o : Nat) (w : World), (w.setCells b o vs).heap[b']? = w.heap[b']?
  | [], _, _ => rfl
  | v :: vs, o, w => by
    rw [World.setCells, heap_setCells hb vs]
    simp [World.setCell, Array.getElem?_modify, Ne.symm hb]
theorem size_setCells {b : Nat} : ∀ (vs : List Value) (o : Nat) (w : World), (w.setCells b o vs).heap.size = w.heap.size
  | [], _, _ => rfl
  | v :: vs, o, w => by rw [World.setCells, size_setCells vs]; simp
theorem shape_setCell (w : World) (a : Addr) (v : Value) (b : Nat) : (w.setCell a v).shape? b = w.shape? b := by
  have h : (w.setCell a v).heap[b]? = if a.block = b then (w.heap[b]?).map (fun x => match x with | .cells c e f => .cells (if a.spot.isSome then c else c.setIfInBounds a.off v) e f | o => o) else w.heap[b]? := by
    simp only [World.setCell, Array.getElem?_modify]
    rfl
  unfold World.shape?
  rw [h]
  by_cases hb : a.block = b
  · rw [if_pos hb]
    cases w.heap[b]? with
    | none => rfl
    | some o =>
      cases o <;> simp only [Option.map_some]
      split <;> simp
  · rw [if_neg hb]
theorem shape_setCells {b c : Nat} : ∀ (vs : List Value) (o : Nat) (w : World), (w.setCells b o vs).shape? c = w.shape? c
  | [], _, _ => rfl
  | v :: vs, o, w => by rw [World.setCells, shape_setCells vs, shape_setCell]
def Sit.write (s : Sit) (b o : Nat) (vs : List Value) : Sit := { s with w := s.w.setCells b o vs }
theorem same_setCells {b : Nat} : ∀ (vs : List Value) (o : Nat) (w : World), (w.setCells b o vs).os = w.os ∧ (w.setCells b o vs).output = w.output
  | [], _, _ => ⟨rfl, rfl⟩
  | v :: vs, o, w => by
    have h := same_setCells (b := b) vs (o + 1) (w.setCell ⟨b, o, none⟩ v)
    exact ⟨h.1.trans rfl, h.2.trans rfl⟩
theorem write_ev {s : Sit} {b : Nat} (hb : s.own b) (o : Nat) (vs : List Value) : Ev s (s.write b o vs) where
  size := by simp [Sit.write, size_setCells]
  keep c hc hn := heap_setCells (fun e => hn (by rw [e]; exact hb)) vs o s.w
  shape c hc := shape_setCells vs o s.w
  own c h := .inl h
  hid := rfl
  wos := (same_setCells vs o s.w).1
  wout := (same_setCells vs o s.w).2
/-- what stands behind cells that are written over -/
theorem setCells_get {w : World} {b o : Nat} {vs : List Value} (hc : ∀ j, j < vs.length → (w.cell? ⟨b, o + j, none⟩).isSome = true) (n : Nat) :
    (w.setCells b o vs).cell? ⟨b, n, none⟩ = if o ≤ n ∧ n < o + vs.length then vs[n - o]? else w.cell? ⟨b, n, none⟩ := by
  by_cases hn : o ≤ n ∧ n < o + vs.length
  · rw [if_pos hn]
    have := World.cell?_setCells_in b vs o w hc (n - o) (by omega)
    rw [show o + (n - o) = n by omega] at this
    rw [this, List.getElem?_eq_getElem]
  · rw [if_neg hn]
    refine World.cell?_setCells_out b vs o w ⟨b, n, none⟩ fun _ _ => ?_
    simp only
    omega
/-- An owned object is written over: its new contents are told by what stands in memory behind the write. -/
theorem write_ok {s : Sit} {h : Heap} (hh : HRel s h) {b : Nat} {o : Obj} {c : Cont} {ad : Addr} {sz : Nat} (ho : nth h b = some (some o)) (hm : o.mt = true)
    (hb : nth s.base b = some (some ad, sz)) {off : Nat} {vs : List Value}
    (hc : match c with
      | .cells l => CellsIn s ((s.write ad.block off vs).mem ad) l
      | .rows sig l => sz = sig.length ∧ 0 < sig.length ∧ DIn s sig ((s.write ad.block off vs).mem ad) (l ())) :
    HRel (s.write ad.block off vs) (upd h b (some ⟨true, c⟩)) := by
  have hown : s.own ad.block := by
    have := ((hh.obj b o ho).block hb).1.2
    rw [hm] at this; exact this.1
  have hfro : ∀ x, s.w.frozen? ⟨ad.block, x, none⟩ = false := by
    have := ((hh.obj b o ho).block hb).1.2
    rw [hm] at this; exact this.2
  have hlt := ((hh.obj b o ho).block hb).1.1
  have hspot := ((hh.obj b o ho).block hb).2
  have hE := write_ev hown off vs
  have hp : s.base <+: (s.write ad.block off vs).base := prefix_refl' _
  have old : ∀ j x, nth (upd h b (some (⟨true, c⟩ : Obj))) j = some (some x) → (j ≠ b ∧ nth h j = some (some x)) ∨ (j = b ∧ x = ⟨true, c⟩) := by
    intro j x hx
    rw [nth_upd] at hx
    split at hx
    · rename_i e
      subst e
      rw [ho] at hx
      simp at hx
      exact .inr ⟨rfl, hx.symm⟩
    · exact .inl ⟨fun e => by simp_all, hx⟩
  have apart : ∀ j x ad' z, j ≠ b → nth h j = some (some x) → nth s.base j = some (some ad', z) → ad'.block ≠ ad.block := by
    intro j x ad' z hj hx hb' e
    cases hmx : x.mt with
    | true => exact hj (hh.inj j b x o ad' ad z sz hx ho hmx hm hb' hb e)
    | false =>
      have := ((hh.obj j x hx).block hb').1.2
      rw [hmx, e] at this
      exact this hown
  refine ⟨by rw [upd_eq]; simpa [Sit.write] using hh.len, ?_, ?_, fun b' hb' => ?_, fun b' hb' => ?_, fun b' => hh.apart b'⟩
  · intro j x hx
    rcases old j x hx with ⟨hj, hx⟩ | ⟨rfl, rfl⟩
    · refine (hh.obj j x hx).keep hE hp (fun ad' z hb' => ?_) fun b hb _ _ => hb
      exact heap_setCells (apart j x ad' z hj hx hb') vs off s.w
    · refine ⟨_, _, hb, ?_⟩
      have fl : Flags (s.write ad.block off vs) true ad.block := by
        refine ⟨by simpa [Sit.write, size_setCells] using hlt, hown, fun x => ?_⟩
        simp only [Sit.write, World.frozen?_setCells]
        exact hfro x
      cases c with
      | cells l => exact ⟨ad, rfl, hspot, hc.mono hE hp fun _ => rfl, fl⟩
      | rows sig l => exact ⟨hc.1, hc.2.1, .inr ⟨ad, rfl, hspot, hc.2.2.mono hE fun _ => rfl, fl⟩⟩
  · intro j k x q a a' z y hj hk hmx hmq ha ha' haa
    rcases old j x hj with ⟨hj1, hj2⟩ | ⟨rfl, rfl⟩
    · rcases old k q hk with ⟨hk1, hk2⟩ | ⟨rfl, rfl⟩
      · exact hh.inj j k x q a a' z y hj2 hk2 hmx hmq ha ha' haa
      · exact hh.inj j k x o a a' z y hj2 ho hmx hm ha ha' haa
    · rcases old k q hk with ⟨hk1, hk2⟩ | ⟨rfl, rfl⟩
      · exact hh.inj j k o q a a' z y ho hk2 hm hmq ha ha' haa
      · rfl
  · simp only [Sit.write, size_setCells]; exact hh.ownlt b' hb'
  · simp only [Sit.write, size_setCells]; exact hh.hidlt b' hb'
theorem write_live {h : Heap} {b : Nat} {o : Obj} (ho : nth h b = some (some o)) (x : Obj) {j : Nat} (hj : Live h j) : Live (upd h b (some x)) j := by
  obtain ⟨q, hq⟩ := hj
  unfold Live
  rw [nth_upd]
  split
  · rw [hq]; exact ⟨x, rfl⟩
  · exact ⟨q, hq⟩
/-- a write to an owned object leaves the other objects' cells as they were -/
theorem write_other {s : Sit} {h : Heap} (hh : HRel s h) {b : Nat} {o : Obj} {ad : Addr} {sz : Nat} (ho : nth h b = some (some o)) (hm : o.mt = true)
    (hb : nth s.base b = some (some ad, sz)) {off : Nat} {vs : List Value} {j : Nat} (hj : j ≠ b) (hl : Live h j) {ad' : Addr} {z : Nat} (hb' : nth s.base j = some (some ad', z)) {a : Addr}
    (ha : a.block = ad'.block) (hsp : a.spot = none) : (s.write ad.block off vs).w.cell? a = s.w.cell? a := by
  obtain ⟨x, hx⟩ := hl
  have hne : ad'.block ≠ ad.block := by
    intro e
    cases hmx : x.mt with
    | true => exact hj (hh.inj j b x o ad' ad z sz hx ho hmx hm hb' hb e)
    | false =>
      have h1 := ((hh.obj j x hx).block hb').1.2
      have h2 := ((hh.obj b o ho).block hb).1.2
      rw [hmx, e] at h1
      rw [hm] at h2
      exact h1 h2.1
  obtain ⟨ab, ao, asp⟩ := a
  simp only at ha hsp
  subst hsp
  refine cell?_congr ?_ _
  exact heap_setCells (by rw [ha]; exact hne) vs off s.w
theorem write_un {s : Sit} {h : Heap} (hh : HRel s h) {b : Nat} {o : Obj} {ad : Addr} {sz : Nat} (ho : nth h b = some (some o)) (hm : o.mt = true)
    (hb : nth s.base b = some (some ad, sz)) {off : Nat} {vs : List Value} (x : Obj) (tc : List Tch) (ht : (.obj b) ∈ tc ∨ ∃ f n, (.cel b f n) ∈ tc ∧ off = ad.off + f ∧ vs.length = n) :
    Un s (s.write ad.block off vs) h (upd h b (some x)) tc := by
  have cl : ∀ (t u : Tch), u ∈ tc → clashes t tc = false → t.clash u = false := by
    intro t u hu hc
    clear ht
    induction tc with
    | nil => cases hu
    | cons y l ih =>
      simp only [clashes] at hc
      split at hc
      · cases hc
      · rename_i hy
        rcases List.mem_cons.1 hu with rfl | hu
        · exact hy
        · exact ih hu hc
  intro t hc hl
  refine ⟨write_live ho x hl, fun a ha => ?_⟩
  by_cases hj : t.id = b
  · rcases ht with ht | ⟨f, n, ht, h1, h2⟩
    · have := cl t _ ht hc
      cases t <;> (simp only [Tch.id] at hj; simp only [Tch.clash] at this; rw [hj, Nat.beq_refl] at this; cases this)
    · have := cl t _ ht hc
      cases t with
      | obj c => simp only [Tch.id] at hj; simp only [Tch.clash] at this; rw [hj, Nat.beq_refl] at this; cases this
      | cel c f' n' =>
        simp only [Tch.id] at hj
        subst hj
        obtain ⟨ad', z, g1, g2, g3, g4, g5⟩ := ha
        rw [hb] at g1
        simp at g1
        obtain ⟨rfl, rfl⟩ := g1
        obtain ⟨ab, ao, asp⟩ := a
        simp only at g2 g3 g4 g5
        subst g2; subst g3
        refine World.cell?_setCells_out ad.block vs off s.w _ fun _ _ => ?_
        simp only [Tch.clash, Nat.beq_refl] at this
        simp only
        split at this
        · rename_i hle
          have := Nat.le_of_ble_eq_true hle
          omega
        · split at this
          · rename_i hle
            have := Nat.le_of_ble_eq_true hle
            omega
          · cases this
  · cases t with
    | obj c =>
      obtain ⟨ad', z, g1, g2, g3⟩ := ha
      exact write_other hh ho hm hb hj hl g1 g2 g3
    | cel c f' n' =>
      obtain ⟨ad', z, g1, g2, g3, _⟩ := ha
      exact write_other hh ho hm hb hj hl g1 g2 g3
end Go.Sy
