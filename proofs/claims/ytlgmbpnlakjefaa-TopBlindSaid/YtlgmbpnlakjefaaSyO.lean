/- Soundness: append, clear. -/
import Derived.Test.YtlgmbpnlakjefaaSyN
namespace Go.Sy
set_option linter.unusedSimpArgs false
set_option linter.unusedVariables false
set_option linter.unusedSectionVars false

theorem run_append2_grow {P : Program} (w : World) (t t' ty e e' : TypeId) (i : TypeInfo) (z : Value) (ht : P.underlying t = some (.slice e)) (ht' : P.underlying t' = some (.slice e')) (hi : P.info? e = some i) (hz : i.zero = some z)
    (base : Option Addr) (sLen sCap : Nat) (olds : List Value) (holds : (Builtin.firstCells i.size sLen (.slice base sLen sCap)).run P w.drew = .ok olds.toArray w.drew)
    (au : Option Addr) (n c : Nat) (news : List Value) (hnews : (Builtin.firstCells i.size n (.slice au n c)).run P w.drew = .ok news.toArray w.drew)
    (hg : sCap < sLen + n) (h63 : ((sLen + n : Nat) : Int) ≤ 9223372036854775807) (hfit : Builtin.nextslicecap (sLen + n) sCap * i.bytes ≤ 281474976710656) :
    (Builtin.append_ #[t, t'] ty #[.slice base sLen sCap, .slice au n c]).run P w =
      .ok (.slice (some ⟨w.heap.size, 0, none⟩) (sLen + n) (grownCap w (sLen + n) sCap e))
        (w.drew.alloc (.cells (olds.toArray ++ news.toArray ++ Builtin.zeroCells z.cells (grownCap w (sLen + n) sCap e - (sLen + n))) e)) := by
  have hn : ¬ (sLen + n ≤ sCap) := by omega
  have h63' : ¬ (9223372036854775807 < ((sLen : Int) + (n : Int))) := by omega
  have h48' : ¬ (281474976710656 < Builtin.nextslicecap (sLen + n) sCap * i.bytes) := by omega
  simp [Builtin.append_, run_underlying ht, run_underlying ht', sizeOf, typeInfo, zeroValue, hi, hz, Builtin.lenOf, hn, h63', h48', Question.forced, hnews, holds, newRow, grownCap]
  congr 2
  apply Array.ext'
  simp [List.append_assoc]
theorem run_append2_room {P : Program} (w : World) (t t' ty e e' : TypeId) (i : TypeInfo) (ht : P.underlying t = some (.slice e)) (ht' : P.underlying t' = some (.slice e')) (hi : P.info? e = some i)
    (base : Option Addr) (sLen sCap : Nat) (au : Option Addr) (n c : Nat) (news : List Value) (hnews : (Builtin.firstCells i.size n (.slice au n c)).run P w = .ok news.toArray w) (hg : sLen + n ≤ sCap)
    (w' : World) (hst : match base with | some a => (storeCells (a.add (sLen * i.size)) news).run P w = .ok () w' | none => w' = w) :
    (Builtin.append_ #[t, t'] ty #[.slice base sLen sCap, .slice au n c]).run P w = .ok (.slice base (sLen + n) sCap) w' := by
  cases base with
  | none =>
    simp only at hst; subst hst
    simp [Builtin.append_, run_underlying ht, run_underlying ht', sizeOf, typeInfo, hi, Builtin.lenOf, hg, hnews]
  | some a =>
    simp only at hst
    simp [Builtin.append_, run_underlying ht, run_underlying ht', sizeOf, typeInfo, hi, Builtin.lenOf, hg, hnews, hst]
theorem DIn.cat {s : Sit} {sig : List Kd} {olds news rest : List Value} {r1 r2 : List (List D)} (h1 : DIn s sig (fun j => olds[j]?) r1) (hl : olds.length = r1.length * sig.length) (h2 : DIn s sig (fun j => news[j]?) r2) :
    DIn s sig (fun j => (olds ++ news ++ rest)[j]?) (r1 ++ r2) := by
  refine ⟨fun i r hr => ?_, fun i j r k d hr hk hd => ?_⟩
  · rw [nth_append] at hr
    split at hr
    · exact h1.1 _ _ hr
    · exact h2.1 _ _ hr
  · have hj := nth_some_lt hk
    rw [nth_append] at hr
    split at hr
    · rename_i hi
      obtain ⟨v, hv, hvr⟩ := h1.2 i j r k d hr hk hd
      have hlt := (List.getElem?_eq_some_iff.1 hv).1
      refine ⟨v, ?_, hvr⟩
      show (olds ++ news ++ rest)[_]? = some v
      rw [List.append_assoc, List.getElem?_append_left hlt]
      exact hv
    · rename_i hi
      obtain ⟨v, hv, hvr⟩ := h2.2 _ j r k d hr hk hd
      have hlt := (List.getElem?_eq_some_iff.1 hv).1
      refine ⟨v, ?_, hvr⟩
      show (olds ++ news ++ rest)[_]? = some v
      have he : i * sig.length + j - olds.length = (i - r1.length) * sig.length + j := by
        rw [hl, Nat.sub_mul]
        have : r1.length * sig.length ≤ i * sig.length := Nat.mul_le_mul_right _ (by omega)
        omega
      have hge : olds.length ≤ i * sig.length + j := by
        have : r1.length * sig.length ≤ i * sig.length := Nat.mul_le_mul_right _ (by omega)
        omega
      rw [List.append_assoc, List.getElem?_append_right hge, he, List.getElem?_append_left hlt]
      exact hv
theorem DIn.shift {s : Sit} {sig : List Kd} {g : Nat → Option Value} {rows : List (List D)} (h : DIn s sig g rows) (i m : Nat) : DIn s sig (fun k => g (i * sig.length + k)) ((rows.drop i).take m) := by
  have key : ∀ i' r, nth ((rows.drop i).take m) i' = some r → nth rows (i + i') = some r := by
    intro i' r hr
    rw [nth_eq, List.getElem?_take] at hr
    split at hr
    · rw [List.getElem?_drop, ← nth_eq] at hr; exact hr
    · cases hr
  refine ⟨fun i' r hr => h.1 _ r (key i' r hr), fun i' j r k d hr hk hd => ?_⟩
  obtain ⟨v, hv, hvr⟩ := h.2 _ j r k d (key i' r hr) hk hd
  refine ⟨v, ?_, hvr⟩
  have e : i * sig.length + (i' * sig.length + j) = (i + i') * sig.length + j := by rw [Nat.add_mul]; omega
  simp only [e]
  exact hv
/-- rows written over in the middle -/
theorem DIn.over {s : Sit} {sig : List Kd} {g g' : Nat → Option Value} {rows xl : List (List D)} {vs : List Value} {p : Nat} (h : DIn s sig g rows) (hx : DIn s sig (fun j => vs[j]?) xl) (hv : vs.length = xl.length * sig.length) (hp : p ≤ rows.length)
    (hg : ∀ k, g' k = if p * sig.length ≤ k ∧ k < p * sig.length + vs.length then vs[k - p * sig.length]? else g k) : DIn s sig g' (rows.take p ++ xl ++ rows.drop (p + xl.length)) := by
  have lt : (rows.take p).length = p := by rw [List.length_take]; exact Nat.min_eq_left hp
  have key : ∀ i r, nth (rows.take p ++ xl ++ rows.drop (p + xl.length)) i = some r → (p ≤ i ∧ i < p + xl.length ∧ nth xl (i - p) = some r) ∨ ((i < p ∨ p + xl.length ≤ i) ∧ nth rows i = some r) := by
    intro i r hr
    rw [List.append_assoc, nth_append, lt] at hr
    split at hr
    · rename_i hi
      rw [nth_eq, List.getElem?_take, if_pos hi, ← nth_eq] at hr
      exact .inr ⟨.inl hi, hr⟩
    · rename_i hi
      rw [nth_append] at hr
      split at hr
      · exact .inl ⟨by omega, by omega, hr⟩
      · rename_i hi2
        rw [nth_eq, List.getElem?_drop, ← nth_eq, show p + xl.length + (i - p - xl.length) = i by omega] at hr
        exact .inr ⟨.inr (by omega), hr⟩
  refine ⟨fun i r hr => ?_, fun i j r k d hr hk hd => ?_⟩
  · rcases key i r hr with ⟨_, _, hr⟩ | ⟨_, hr⟩
    · exact hx.1 _ _ hr
    · exact h.1 _ _ hr
  · have hj := nth_some_lt hk
    rw [hg]
    rcases key i r hr with ⟨h1, h2, hr⟩ | ⟨h1, hr⟩
    · obtain ⟨v, hv1, hvr⟩ := hx.2 _ j r k d hr hk hd
      have e1 : p * sig.length ≤ i * sig.length := Nat.mul_le_mul_right _ h1
      have e2 : (i + 1) * sig.length ≤ (p + xl.length) * sig.length := Nat.mul_le_mul_right _ (by omega)
      rw [Nat.succ_mul, Nat.add_mul] at e2
      rw [if_pos (by omega)]
      exact ⟨v, by rw [← hv1]; show vs[_]? = vs[_]?; congr 1; rw [Nat.sub_mul]; omega, hvr⟩
    · obtain ⟨v, hv1, hvr⟩ := h.2 _ j r k d hr hk hd
      rw [if_neg (by
        rcases h1 with h1 | h1
        · have : (i + 1) * sig.length ≤ p * sig.length := Nat.mul_le_mul_right _ h1
          rw [Nat.succ_mul] at this; omega
        · have : (p + xl.length) * sig.length ≤ i * sig.length := Nat.mul_le_mul_right _ h1
          rw [Nat.add_mul] at this; omega)]
      exact ⟨v, hv1, hvr⟩
/-- a nil slice, as an object of no rows -/
theorem nilobj_ok {s : Sit} {h : Heap} (hh : HRel s h) {sig : List Kd} {l : Unit → List (List D)} (h0 : 0 < sig.length) (hl : l () = []) :
    HRel { s with base := s.base ++ [((none : Option Addr), sig.length)] } (h ++ [some ⟨true, .rows sig l⟩]) := by
  have hE : Ev s { s with base := s.base ++ [((none : Option Addr), sig.length)] } := ⟨Nat.le_refl _, fun _ _ _ => rfl, fun _ _ => rfl, fun _ h => .inl h, rfl, rfl, rfl⟩
  have hp : s.base <+: { s with base := s.base ++ [((none : Option Addr), sig.length)] }.base := List.prefix_append _ _
  have hlen := hh.len
  have old : ∀ j x, nth (h ++ [some (⟨true, .rows sig l⟩ : Obj)]) j = some (some x) → (j < h.length ∧ nth h j = some (some x)) ∨ (j = h.length ∧ x = ⟨true, .rows sig l⟩) := by
    intro j x hx
    rw [nth_append] at hx
    split at hx
    · exact .inl ⟨‹_›, hx⟩
    · have := nth_some_lt hx
      simp at this
      obtain rfl : j = h.length := by omega
      simp [nth] at hx
      exact .inr ⟨rfl, hx.symm⟩
  have bnew : nth (s.base ++ [((none : Option Addr), sig.length)]) h.length = some (none, sig.length) := by
    rw [nth_append, if_neg (by omega), hlen]; simp [nth]
  have bold : ∀ j, j < h.length → nth (s.base ++ [((none : Option Addr), sig.length)]) j = nth s.base j := fun j hj => by
    rw [nth_append, if_pos (by omega)]
  refine ⟨by simp [hlen], ?_, ?_, hh.ownlt, hh.hidlt, hh.apart⟩
  · intro j x hx
    rcases old j x hx with ⟨hj, hx⟩ | ⟨rfl, rfl⟩
    · exact (hh.obj j x hx).keep hE hp (fun _ _ _ => rfl) fun _ hb _ _ => hb
    · exact ⟨_, _, bnew, rfl, h0, .inl ⟨rfl, hl⟩⟩
  · intro j k x q a a' z y hj hk hmx hmq ha ha' haa
    rcases old j x hj with ⟨hj1, hj2⟩ | ⟨rfl, rfl⟩
    · rcases old k q hk with ⟨hk1, hk2⟩ | ⟨rfl, rfl⟩
      · simp only [bold j hj1] at ha
        simp only [bold k hk1] at ha'
        exact hh.inj j k x q a a' z y hj2 hk2 hmx hmq ha ha' haa
      · simp only [bnew] at ha'; simp at ha'
    · simp only [bnew] at ha; simp at ha
section
variable {P : Program} {T : Tab} (hT : TabOk P T) {s : Sit} {h : Heap} (hh : HRel s h) {K : AV → Heap → List Tch → Prop}
include hT hh
/-- what 'firstCells' reads of a slice's rows -/
theorem first_ok {b : Nat} {i n c : NX} {z : Nat} {ex : Bool} {u : Value} {o : Obj} {sig : List Kd} {l : Unit → List (List D)} (hx : VRel s (.sl b i (.l 0) z n c ex) u) (ho : nth h b = some (some o)) (hc : o.c = .rows sig l) (hz : sig.length = z)
    (hle : i.v + n.v ≤ (l ()).length) : ∃ (a : Option Addr) (cap : Nat) (vs : List Value), u = .slice a n.v cap ∧ vs.length = n.v * z ∧ DIn s sig (fun j => vs[j]?) (((l ()).drop i.v).take n.v) ∧ (∀ x ∈ vs, x.oneCell' = true) ∧
      (∀ w : World, (∀ x, w.cell? x = s.w.cell? x) → (Builtin.firstCells z n.v u).run P w = .ok vs.toArray w) ∧ n.v ≤ c.v ∧ c.v ≤ cap ∧ (ex = true → cap = c.v) ∧
      (cap = 0 ∨ ∃ ad, a = some ad ∧ s.place b i.v 0 ad ∧ ∃ t m, s.w.shape? ad.block = some (t, m) ∧ ad.off + cap * z ≤ m) := by
  simp only [VRel, zv] at hx
  obtain ⟨a, cap, rfl, e1, e2, e3, e4, e5, e6⟩ := hx
  by_cases hn : n.v = 0
  · refine ⟨a, cap, [], rfl, by simp [hn], ⟨fun i' r hr => by simp [hn, nth] at hr, fun i' j r k d hr => by simp [hn, nth] at hr⟩, by simp, fun w _ => ?_, e1, e2, e3, e6⟩
    rw [hn]
    cases a with
    | none => simp [Builtin.firstCells]
    | some ad => simp [Builtin.firstCells, loadCells, loadCellsFrom]
  · rcases e6 with e6 | ⟨ad, rfl, hp, hsh⟩
    · omega
    · obtain ⟨vs, v1, v2, v3, v4⟩ := rows_vals hT hh ho hc hle hp
      rw [hz] at v1
      refine ⟨some ad, cap, vs, rfl, v1, v3, v4, fun w hw => ?_, e1, e2, e3, .inr ⟨ad, rfl, hp, hsh⟩⟩
      refine run_firstCells_some w z n.v ad n.v cap vs v1 fun j v hj => ?_
      rw [add_none hT (place_spot hT hp), hw]
      exact v2 j v hj
omit hT hh in
theorem take_drop_mid {α : Type} (l xl : List α) (i n m : Nat) (h : i + n ≤ l.length) (hm : xl.length = m) : ((l.take (i + n) ++ xl ++ l.drop (i + n + m)).drop i).take (n + m) = (l.drop i).take n ++ xl := by
  apply List.ext_getElem?
  intro j
  have l1 : (l.take (i + n)).length = i + n := by simp; omega
  have l2 : ((l.drop i).take n).length = n := by simp; omega
  rw [List.getElem?_take]
  by_cases h1 : j < n
  · rw [if_pos (by omega), List.getElem?_drop, List.append_assoc, List.getElem?_append_left (by omega), List.getElem?_take, if_pos (by omega), List.getElem?_append_left (by omega), List.getElem?_take, if_pos h1, List.getElem?_drop]
  · by_cases h2 : j < n + m
    · rw [if_pos h2, List.getElem?_drop, List.append_assoc, List.getElem?_append_right (by omega), l1, List.getElem?_append_left (by omega), List.getElem?_append_right (by omega), l2]
      congr 1; omega
    · rw [if_neg h2, List.getElem?_append_right (by omega), l2, List.getElem?_eq_none (by omega)]
/-- a slice over new memory -/
theorem grown_slice {s1 : Sit} {h1 : Heap} (hh1 : HRel s1 h1) {arr : Array Value} {t : TypeId} {z : Nat} {n : NX} {cap len : Nat} (hl : n.v = len) (h0 : 0 < z) (h1' : len ≤ cap) (h4 : cap * z ≤ arr.size) :
    VRel (s1.grow arr t z) (.sl (Sy.len h1) (.l 0) (.l 0) z n n false) (.slice (some ⟨s1.w.heap.size, 0, none⟩) len cap) := by
  simp only [VRel]
  refine ⟨_, _, by rw [hl], Nat.le_refl _, by omega, (fun h => by cases h), h0, ?_, .inr ⟨_, rfl, grow_place hh1 _ _ _, t, arr.size, ?_, by simpa using h4⟩⟩
  · simp [Sit.grow, len_eq, hh1.len]
  · exact shape_alloc _ _ _
omit hT hh in
theorem shape_cell {w : World} {b : Nat} {t : TypeId} {m o : Nat} (h : w.shape? b = some (t, m)) (ho : o < m) : (w.cell? ⟨b, o, none⟩).isSome = true := by
  unfold World.shape? at h
  unfold World.cell?
  simp only
  split at h
  · rename_i c e f hb
    simp at h
    obtain ⟨_, rfl⟩ := h
    simp [ho]
  · cases h
omit hT in
/-- the same rows, said in another way -/
theorem same_ok {b : Nat} {o : Obj} {sig : List Kd} {l l' : Unit → List (List D)} (ho : nth h b = some (some o)) (hm : o.mt = true) (hc : o.c = .rows sig l) (hl : l' () = l ()) : HRel s (upd h b (some ⟨true, .rows sig l'⟩)) := by
  have old : ∀ j x, nth (upd h b (some (⟨true, .rows sig l'⟩ : Obj))) j = some (some x) → (j = b ∧ x = ⟨true, .rows sig l'⟩) ∨ nth h j = some (some x) := by
    intro j x hx
    rw [nth_upd] at hx
    split at hx
    · subst_vars; rw [ho] at hx; simp at hx; exact .inl ⟨rfl, hx.symm⟩
    · exact .inr hx
  refine ⟨by rw [upd_eq]; simpa using hh.len, ?_, ?_, hh.ownlt, hh.hidlt, hh.apart⟩
  · intro j x hx
    rcases old j x hx with ⟨rfl, rfl⟩ | hx
    · obtain ⟨ab, sz, h1, h2⟩ := hh.obj j o ho
      rw [hc] at h2
      refine ⟨ab, sz, h1, ?_⟩
      simp only [hl]
      rw [hm] at h2
      exact h2
    · exact hh.obj j x hx
  · intro j k x q a a' z y hj hk hmx hmq ha ha' haa
    have lift : ∀ j x, x.mt = true → nth (upd h b (some (⟨true, .rows sig l'⟩ : Obj))) j = some (some x) → ∃ x', x'.mt = true ∧ nth h j = some (some x') := by
      intro j x hx hj
      rcases old j x hj with ⟨rfl, rfl⟩ | hj
      · exact ⟨o, hm, ho⟩
      · exact ⟨x, hx, hj⟩
    obtain ⟨x', h1, h2⟩ := lift j x hmx hj
    obtain ⟨q', h3, h4⟩ := lift k q hmq hk
    exact hh.inj j k x' q' a a' z y h2 h4 h1 h3 ha ha' haa
omit hT hh in
theorem over_nil {α : Type} (l : List α) (p : Nat) : l.take p ++ [] ++ l.drop (p + 0) = l := by simp
omit hT hh in
theorem upd_upd {α : Type} (l : List α) (b : Nat) (x y : α) : upd (upd l b x) b y = upd l b y := by simp [upd_eq]
omit hT in
/-- rows written into an owned object behind its first ones -/
theorem rows_write {b : Nat} {o : Obj} {sig : List Kd} {l : Unit → List (List D)} (ho : nth h b = some (some o)) (hm : o.mt = true) (hc : o.c = .rows sig l) {ad : Addr} {sz p : Nat} (hb : nth s.base b = some (some ad, sz))
    {news : List Value} {xl : List (List D)} (hx : DIn s sig (fun j => news[j]?) xl) (hn : news.length = xl.length * sig.length) (hp : p ≤ (l ()).length) {off : Nat} (hoff : off = ad.off + p * sig.length)
    (hcell : ∀ j, j < news.length → (s.w.cell? ⟨ad.block, off + j, none⟩).isSome = true) :
    sz = sig.length ∧ 0 < sig.length ∧ DIn s sig ((s.write ad.block off news).mem ad) ((l ()).take p ++ xl ++ (l ()).drop (p + xl.length)) := by
  obtain ⟨ab, sz', h1, h2⟩ := hh.obj b o ho
  rw [hb] at h1
  simp at h1
  obtain ⟨rfl, rfl⟩ := h1
  rw [hc] at h2
  obtain ⟨g1, g2, g3⟩ := h2
  rcases g3 with ⟨g3, _⟩ | ⟨ad', g3, g4, g5, g6⟩
  · cases g3
  · simp at g3; subst g3
    refine ⟨g1, g2, (g5.over hx hn hp (g' := (s.write ad.block off news).mem ad) fun k => ?_).mono (Ev.refl s) fun _ => rfl⟩
    simp only [Sit.mem, Sit.write]
    rw [setCells_get hcell]
    subst hoff
    by_cases hk : p * sig.length ≤ k ∧ k < p * sig.length + news.length
    · rw [if_pos (by omega), if_pos hk]
      congr 1; omega
    · rw [if_neg (by omega), if_neg hk]
end
end Go.Sy
