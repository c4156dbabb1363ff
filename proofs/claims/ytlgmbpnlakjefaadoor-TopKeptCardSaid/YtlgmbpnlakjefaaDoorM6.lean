/- Put together by a program of this work out of its texts SyO, SyP, SyQ. -/
import Derived.Test.YtlgmbpnlakjefaaDoorM5
section
/- Soundness: append, clear. -/
namespace Go.Sy
set_option linter.unusedSimpArgs false
set_option linter.unusedVariables false
set_option linter.unusedSectionVars false

theorem run_append2_grow {P : Program} (w : World) (t t' ty e e' : TypeId) (i : TypeInfo) (z : Value) (ht : P.underlying t = some (.slice e)) (ht' : P.underlying t' = some (.slice e')) (hi : P.info? e = some i) (hz : i.zero = some z)
    (base : Option Addr) (sLen sCap : Nat) (olds : List Value) (holds : (Builtin.firstCells i.size sLen (.slice base sLen sCap)).run P w.drew = .ok olds.toArray w.drew)
    (au : Option Addr) (n c : Nat) (news : List Value) (hnews : (Builtin.firstCells i.size n (.slice au n c)).run P w.drew = .ok news.toArray w.drew)
    (hg : sCap < sLen + n) (h63 : ((sLen + n : Nat) : Int) ≤ 9223372036854775807) (hfit : Builtin.nextslicecap (sLen + n) sCap * i.bytes ≤ 281474976710656) :
    (Builtin.append_ #[t, t'] ty #[.slice base sLen sCap, .slice au n c]).run P w =
      .ok (.slice (some ⟨w.heap.size, 0, none⟩) (sLen + n) (grownCap w (sLen + n) sCap e))
        (w.drew.alloc (.cells (olds.toArray ++ news.toArray ++ Builtin.zeroCells z.cells (grownCap w (sLen + n) sCap e - (sLen + n))) e)) := by
  have hn : ¬ (sLen + n ≤ sCap) := by omega
  have h63' : ¬ (9223372036854775807 < ((sLen : Int) + (n : Int))) := by omega
  have h48' : ¬ (281474976710656 < Builtin.nextslicecap (sLen + n) sCap * i.bytes) := by omega
  simp [Builtin.append_, run_underlying ht, run_underlying ht', sizeOf, typeInfo, zeroValue, hi, hz, Builtin.lenOf, hn, h63', h48', Question.forced, hnews, holds, newRow, grownCap]
  congr 2
  apply Array.ext'
  simp [List.append_assoc]
theorem run_append2_room {P : Program} (w : World) (t t' ty e e' : TypeId) (i : TypeInfo) (ht : P.underlying t = some (.slice e)) (ht' : P.underlying t' = some (.slice e')) (hi : P.info? e = some i)
    (base : Option Addr) (sLen sCap : Nat) (au : Option Addr) (n c : Nat) (news : List Value) (hnews : (Builtin.firstCells i.size n (.slice au n c)).run P w = .ok news.toArray w) (hg : sLen + n ≤ sCap)
    (w' : World) (hst : match base with | some a => (storeCells (a.add (sLen * i.size)) news).run P w = .ok () w' | none => w' = w) :
    (Builtin.append_ #[t, t'] ty #[.slice base sLen sCap, .slice au n c]).run P w = .ok (.slice base (sLen + n) sCap) w' := by
  cases base with
  | none =>
    simp only at hst; subst hst
    simp [Builtin.append_, run_underlying ht, run_underlying ht', sizeOf, typeInfo, hi, Builtin.lenOf, hg, hnews]
  | some a =>
    simp only at hst
    simp [Builtin.append_, run_underlying ht, run_underlying ht', sizeOf, typeInfo, hi, Builtin.lenOf, hg, hnews, hst]
theorem DIn.cat {s : Sit} {sig : List Kd} {olds news rest : List Value} {r1 r2 : List (List D)} (h1 : DIn s sig (fun j => olds[j]?) r1) (hl : olds.length = r1.length * sig.length) (h2 : DIn s sig (fun j => news[j]?) r2) :
    DIn s sig (fun j => (olds ++ news ++ rest)[j]?) (r1 ++ r2) := by
  refine ⟨fun i r hr => ?_, fun i j r k d hr hk hd => ?_⟩
  · rw [nth_append] at hr
    split at hr
    · exact h1.1 _ _ hr
    · exact h2.1 _ _ hr
  · have hj := nth_some_lt hk
    rw [nth_append] at hr
    split at hr
    · rename_i hi
      obtain ⟨v, hv, hvr⟩ := h1.2 i j r k d hr hk hd
      have hlt := (List.getElem?_eq_some_iff.1 hv).1
      refine ⟨v, ?_, hvr⟩
      show (olds ++ news ++ rest)[_]? = some v
      rw [List.append_assoc, List.getElem?_append_left hlt]
      exact hv
    · rename_i hi
      obtain ⟨v, hv, hvr⟩ := h2.2 _ j r k d hr hk hd
      have hlt := (List.getElem?_eq_some_iff.1 hv).1
      refine ⟨v, ?_, hvr⟩
      show (olds ++ news ++ rest)[_]? = some v
      have he : i * sig.length + j - olds.length = (i - r1.length) * sig.length + j := by
        rw [hl, Nat.sub_mul]
        have : r1.length * sig.length ≤ i * sig.length := Nat.mul_le_mul_right _ (by omega)
        omega
      have hge : olds.length ≤ i * sig.length + j := by
        have : r1.length * sig.length ≤ i * sig.length := Nat.mul_le_mul_right _ (by omega)
        omega
      rw [List.append_assoc, List.getElem?_append_right hge, he, List.getElem?_append_left hlt]
      exact hv
theorem DIn.shift {s : Sit} {sig : List Kd} {g : Nat → Option Value} {rows : List (List D)} (h : DIn s sig g rows) (i m : Nat) : DIn s sig (fun k => g (i * sig.length + k)) ((rows.drop i).take m) := by
  have key : ∀ i' r, nth ((rows.drop i).take m) i' = some r → nth rows (i + i') = some r := by
    intro i' r hr
    rw [nth_eq, List.getElem?_take] at hr
    split at hr
    · rw [List.getElem?_drop, ← nth_eq] at hr; exact hr
    · cases hr
  refine ⟨fun i' r hr => h.1 _ r (key i' r hr), fun i' j r k d hr hk hd => ?_⟩
  obtain ⟨v, hv, hvr⟩ := h.2 _ j r k d (key i' r hr) hk hd
  refine ⟨v, ?_, hvr⟩
  have e : i * sig.length + (i' * sig.length + j) = (i + i') * sig.length + j := by rw [Nat.add_mul]; omega
  simp only [e]
  exact hv
/-- rows written over in the middle -/
theorem DIn.over {s : Sit} {sig : List Kd} {g g' : Nat → Option Value} {rows xl : List (List D)} {vs : List Value} {p : Nat} (h : DIn s sig g rows) (hx : DIn s sig (fun j => vs[j]?) xl) (hv : vs.length = xl.length * sig.length) (hp : p ≤ rows.length)
    (hg : ∀ k, g' k = if p * sig.length ≤ k ∧ k < p * sig.length + vs.length then vs[k - p * sig.length]? else g k) : DIn s sig g' (rows.take p ++ xl ++ rows.drop (p + xl.length)) := by
  have lt : (rows.take p).length = p := by rw [List.length_take]; exact Nat.min_eq_left hp
  have key : ∀ i r, nth (rows.take p ++ xl ++ rows.drop (p + xl.length)) i = some r → (p ≤ i ∧ i < p + xl.length ∧ nth xl (i - p) = some r) ∨ ((i < p ∨ p + xl.length ≤ i) ∧ nth rows i = some r) := by
    intro i r hr
    rw [List.append_assoc, nth_append, lt] at hr
    split at hr
    · rename_i hi
      rw [nth_eq, List.getElem?_take, if_pos hi, ← nth_eq] at hr
      exact .inr ⟨.inl hi, hr⟩
    · rename_i hi
      rw [nth_append] at hr
      split at hr
      · exact .inl ⟨by omega, by omega, hr⟩
      · rename_i hi2
        rw [nth_eq, List.getElem?_drop, ← nth_eq, show p + xl.length + (i - p - xl.length) = i by omega] at hr
        exact .inr ⟨.inr (by omega), hr⟩
  refine ⟨fun i r hr => ?_, fun i j r k d hr hk hd => ?_⟩
  · rcases key i r hr with ⟨_, _, hr⟩ | ⟨_, hr⟩
    · exact hx.1 _ _ hr
    · exact h.1 _ _ hr
  · have hj := nth_some_lt hk
    rw [hg]
    rcases key i r hr with ⟨h1, h2, hr⟩ | ⟨h1, hr⟩
    · obtain ⟨v, hv1, hvr⟩ := hx.2 _ j r k d hr hk hd
      have e1 : p * sig.length ≤ i * sig.length := Nat.mul_le_mul_right _ h1
      have e2 : (i + 1) * sig.length ≤ (p + xl.length) * sig.length := Nat.mul_le_mul_right _ (by omega)
      rw [Nat.succ_mul, Nat.add_mul] at e2
      rw [if_pos (by omega)]
      exact ⟨v, by rw [← hv1]; show vs[_]? = vs[_]?; congr 1; rw [Nat.sub_mul]; omega, hvr⟩
    · obtain ⟨v, hv1, hvr⟩ := h.2 _ j r k d hr hk hd
      rw [if_neg (by
        rcases h1 with h1 | h1
        · have : (i + 1) * sig.length ≤ p * sig.length := Nat.mul_le_mul_right _ h1
          rw [Nat.succ_mul] at this; omega
        · have : (p + xl.length) * sig.length ≤ i * sig.length := Nat.mul_le_mul_right _ h1
          rw [Nat.add_mul] at this; omega)]
      exact ⟨v, hv1, hvr⟩
/-- a nil slice, as an object of no rows -/
theorem nilobj_ok {s : Sit} {h : Heap} (hh : HRel s h) {sig : List Kd} {l : Unit → List (List D)} (h0 : 0 < sig.length) (hl : l () = []) :
    HRel { s with base := s.base ++ [((none : Option Addr), sig.length)] } (h ++ [some ⟨true, .rows sig l⟩]) := by
  have hE : Ev s { s with base := s.base ++ [((none : Option Addr), sig.length)] } := ⟨Nat.le_refl _, fun _ _ _ => rfl, fun _ _ => rfl, fun _ h => .inl h, rfl, rfl, rfl⟩
  have hp : s.base <+: { s with base := s.base ++ [((none : Option Addr), sig.length)] }.base := List.prefix_append _ _
  have hlen := hh.len
  have old : ∀ j x, nth (h ++ [some (⟨true, .rows sig l⟩ : Obj)]) j = some (some x) → (j < h.length ∧ nth h j = some (some x)) ∨ (j = h.length ∧ x = ⟨true, .rows sig l⟩) := by
    intro j x hx
    rw [nth_append] at hx
    split at hx
    · exact .inl ⟨‹_›, hx⟩
    · have := nth_some_lt hx
      simp at this
      obtain rfl : j = h.length := by omega
      simp [nth] at hx
      exact .inr ⟨rfl, hx.symm⟩
  have bnew : nth (s.base ++ [((none : Option Addr), sig.length)]) h.length = some (none, sig.length) := by
    rw [nth_append, if_neg (by omega), hlen]; simp [nth]
  have bold : ∀ j, j < h.length → nth (s.base ++ [((none : Option Addr), sig.length)]) j = nth s.base j := fun j hj => by
    rw [nth_append, if_pos (by omega)]
  refine ⟨by simp [hlen], ?_, ?_, hh.ownlt, hh.hidlt, hh.apart, hh.fix.ev hE⟩
  · intro j x hx
    rcases old j x hx with ⟨hj, hx⟩ | ⟨rfl, rfl⟩
    · exact (hh.obj j x hx).keep hE hp (fun _ _ _ => rfl) fun _ hb _ _ => hb
    · exact ⟨_, _, bnew, rfl, h0, .inl ⟨rfl, hl⟩⟩
  · intro j k x q a a' z y hj hk hmx hmq ha ha' haa
    rcases old j x hj with ⟨hj1, hj2⟩ | ⟨rfl, rfl⟩
    · rcases old k q hk with ⟨hk1, hk2⟩ | ⟨rfl, rfl⟩
      · simp only [bold j hj1] at ha
        simp only [bold k hk1] at ha'
        exact hh.inj j k x q a a' z y hj2 hk2 hmx hmq ha ha' haa
      · simp only [bnew] at ha'; simp at ha'
    · simp only [bnew] at ha; simp at ha
section
variable {P : Program} {T : Tab} (hT : TabOk P T) {s : Sit} {h : Heap} (hh : HRel s h) {K : AV → Heap → List Tch → Prop}
include hT hh
/-- what 'firstCells' reads of a slice's rows -/
theorem first_ok {b : Nat} {i n c : NX} {z : Nat} {ex : Bool} {u : Value} {o : Obj} {sig : List Kd} {l : Unit → List (List D)} (hx : VRel s (.sl b i (.l 0) z n c ex) u) (ho : nth h b = some (some o)) (hc : o.c = .rows sig l) (hz : sig.length = z)
    (hle : i.v + n.v ≤ (l ()).length) : ∃ (a : Option Addr) (cap : Nat) (vs : List Value), u = .slice a n.v cap ∧ vs.length = n.v * z ∧ DIn s sig (fun j => vs[j]?) (((l ()).drop i.v).take n.v) ∧ (∀ x ∈ vs, x.oneCell' = true) ∧
      (∀ w : World, (∀ x, w.cell? x = s.w.cell? x) → (Builtin.firstCells z n.v u).run P w = .ok vs.toArray w) ∧ n.v ≤ c.v ∧ c.v ≤ cap ∧ (ex = true → cap = c.v) ∧
      (cap = 0 ∨ ∃ ad, a = some ad ∧ s.place b i.v 0 ad ∧ ∃ t m, s.w.shape? ad.block = some (t, m) ∧ ad.off + cap * z ≤ m) := by
  simp only [VRel, zv] at hx
  obtain ⟨a, cap, rfl, e1, e2, e3, e4, e5, e6⟩ := hx
  by_cases hn : n.v = 0
  · refine ⟨a, cap, [], rfl, by simp [hn], ⟨fun i' r hr => by simp [hn, nth] at hr, fun i' j r k d hr => by simp [hn, nth] at hr⟩, by simp, fun w _ => ?_, e1, e2, e3, e6⟩
    rw [hn]
    cases a with
    | none => simp [Builtin.firstCells]
    | some ad => simp [Builtin.firstCells, loadCells, loadCellsFrom]
  · rcases e6 with e6 | ⟨ad, rfl, hp, hsh⟩
    · omega
    · obtain ⟨vs, v1, v2, v3, v4⟩ := rows_vals hT hh ho hc hle hp
      rw [hz] at v1
      refine ⟨some ad, cap, vs, rfl, v1, v3, v4, fun w hw => ?_, e1, e2, e3, .inr ⟨ad, rfl, hp, hsh⟩⟩
      refine run_firstCells_some w z n.v ad n.v cap vs v1 fun j v hj => ?_
      rw [add_none hT (place_spot hT hp), hw]
      exact v2 j v hj
omit hT hh in
theorem take_drop_mid {α : Type} (l xl : List α) (i n m : Nat) (h : i + n ≤ l.length) (hm : xl.length = m) : ((l.take (i + n) ++ xl ++ l.drop (i + n + m)).drop i).take (n + m) = (l.drop i).take n ++ xl := by
  apply List.ext_getElem?
  intro j
  have l1 : (l.take (i + n)).length = i + n := by simp; omega
  have l2 : ((l.drop i).take n).length = n := by simp; omega
  rw [List.getElem?_take]
  by_cases h1 : j < n
  · rw [if_pos (by omega), List.getElem?_drop, List.append_assoc, List.getElem?_append_left (by omega), List.getElem?_take, if_pos (by omega), List.getElem?_append_left (by omega), List.getElem?_take, if_pos h1, List.getElem?_drop]
  · by_cases h2 : j < n + m
    · rw [if_pos h2, List.getElem?_drop, List.append_assoc, List.getElem?_append_right (by omega), l1, List.getElem?_append_left (by omega), List.getElem?_append_right (by omega), l2]
      congr 1; omega
    · rw [if_neg h2, List.getElem?_append_right (by omega), l2, List.getElem?_eq_none (by omega)]
/-- a slice over new memory -/
theorem grown_slice {s1 : Sit} {h1 : Heap} (hh1 : HRel s1 h1) {arr : Array Value} {t : TypeId} {z : Nat} {n : NX} {cap len : Nat} (hl : n.v = len) (h0 : 0 < z) (h1' : len ≤ cap) (h4 : cap * z ≤ arr.size) :
    VRel (s1.grow arr t z) (.sl (Sy.len h1) (.l 0) (.l 0) z n n false) (.slice (some ⟨s1.w.heap.size, 0, none⟩) len cap) := by
  simp only [VRel]
  refine ⟨_, _, by rw [hl], Nat.le_refl _, by omega, (fun h => by cases h), h0, ?_, .inr ⟨_, rfl, grow_place hh1 _ _ _, t, arr.size, ?_, by simpa using h4⟩⟩
  · simp [Sit.grow, len_eq, hh1.len]
  · exact shape_alloc _ _ _
omit hT hh in
theorem shape_cell {w : World} {b : Nat} {t : TypeId} {m o : Nat} (h : w.shape? b = some (t, m)) (ho : o < m) : (w.cell? ⟨b, o, none⟩).isSome = true := by
  unfold World.shape? at h
  unfold World.cell?
  simp only
  split at h
  · rename_i c e f hb
    simp at h
    obtain ⟨_, rfl⟩ := h
    simp [ho]
  · cases h
omit hT in
/-- the same rows, said in another way -/
theorem same_ok {b : Nat} {o : Obj} {sig : List Kd} {l l' : Unit → List (List D)} (ho : nth h b = some (some o)) (hm : o.mt = true) (hc : o.c = .rows sig l) (hl : l' () = l ()) : HRel s (upd h b (some ⟨true, .rows sig l'⟩)) := by
  have old : ∀ j x, nth (upd h b (some (⟨true, .rows sig l'⟩ : Obj))) j = some (some x) → (j = b ∧ x = ⟨true, .rows sig l'⟩) ∨ nth h j = some (some x) := by
    intro j x hx
    rw [nth_upd] at hx
    split at hx
    · subst_vars; rw [ho] at hx; simp at hx; exact .inl ⟨rfl, hx.symm⟩
    · exact .inr hx
  refine ⟨by rw [upd_eq]; simpa using hh.len, ?_, ?_, hh.ownlt, hh.hidlt, hh.apart, hh.fix⟩
  · intro j x hx
    rcases old j x hx with ⟨rfl, rfl⟩ | hx
    · obtain ⟨ab, sz, h1, h2⟩ := hh.obj j o ho
      rw [hc] at h2
      refine ⟨ab, sz, h1, ?_⟩
      simp only [hl]
      rw [hm] at h2
      exact h2
    · exact hh.obj j x hx
  · intro j k x q a a' z y hj hk hmx hmq ha ha' haa
    have lift : ∀ j x, x.mt = true → nth (upd h b (some (⟨true, .rows sig l'⟩ : Obj))) j = some (some x) → ∃ x', x'.mt = true ∧ nth h j = some (some x') := by
      intro j x hx hj
      rcases old j x hj with ⟨rfl, rfl⟩ | hj
      · exact ⟨o, hm, ho⟩
      · exact ⟨x, hx, hj⟩
    obtain ⟨x', h1, h2⟩ := lift j x hmx hj
    obtain ⟨q', h3, h4⟩ := lift k q hmq hk
    exact hh.inj j k x' q' a a' z y h2 h4 h1 h3 ha ha' haa
omit hT hh in
theorem over_nil {α : Type} (l : List α) (p : Nat) : l.take p ++ [] ++ l.drop (p + 0) = l := by simp
omit hT hh in
theorem upd_upd {α : Type} (l : List α) (b : Nat) (x y : α) : upd (upd l b x) b y = upd l b y := by simp [upd_eq]
omit hT in
/-- rows written into an owned object behind its first ones -/
theorem rows_write {b : Nat} {o : Obj} {sig : List Kd} {l : Unit → List (List D)} (ho : nth h b = some (some o)) (hm : o.mt = true) (hc : o.c = .rows sig l) {ad : Addr} {sz p : Nat} (hb : nth s.base b = some (some ad, sz))
    {news : List Value} {xl : List (List D)} (hx : DIn s sig (fun j => news[j]?) xl) (hn : news.length = xl.length * sig.length) (hp : p ≤ (l ()).length) {off : Nat} (hoff : off = ad.off + p * sig.length)
    (hcell : ∀ j, j < news.length → (s.w.cell? ⟨ad.block, off + j, none⟩).isSome = true) :
    sz = sig.length ∧ 0 < sig.length ∧ DIn s sig ((s.write ad.block off news).mem ad) ((l ()).take p ++ xl ++ (l ()).drop (p + xl.length)) := by
  obtain ⟨ab, sz', h1, h2⟩ := hh.obj b o ho
  rw [hb] at h1
  simp at h1
  obtain ⟨rfl, rfl⟩ := h1
  rw [hc] at h2
  obtain ⟨g1, g2, g3⟩ := h2
  rcases g3 with ⟨g3, _⟩ | ⟨ad', g3, g4, g5, g6⟩
  · cases g3
  · simp at g3; subst g3
    refine ⟨g1, g2, (g5.over hx hn hp (g' := (s.write ad.block off news).mem ad) fun k => ?_).mono (Ev.refl s) fun _ => rfl⟩
    simp only [Sit.mem, Sit.write]
    rw [setCells_get hcell]
    subst hoff
    by_cases hk : p * sig.length ≤ k ∧ k < p * sig.length + news.length
    · rw [if_pos (by omega), if_pos hk]
      congr 1; omega
    · rw [if_neg (by omega), if_neg hk]
end
end Go.Sy
end

section
/- Soundness: append, clear. -/
namespace Go.Sy
set_option linter.unusedSimpArgs false
set_option linter.unusedVariables false
set_option linter.unusedSectionVars false
section
variable {P : Program} {T : Tab} (hT : TabOk P T) {s : Sit} {h : Heap} (hh : HRel s h) {K : AV → Heap → List Tch → Prop}
include hT hh
omit hT hh in
theorem eff_val {x : Sem Value} {s' : Sit} {av : AV} {v : Value} {h' : Heap} {tc : List Tch} (hr : x.run P s.w = .ok v s'.w) (hE : Ev s s') (hp : s.base <+: s'.base) (hh' : HRel s' h') (hv : VRel s' av v) (hu : Un s s' h h' tc) (hk : K av h' tc) :
    EffOk P s h (do pure (Next.value (← x))) K := ⟨s', av, v, h', tc, _, by simp only [Sem.run_bind, hr, Result.andThen_ok]; rfl, .inl rfl, hE, hp, hh', hv, hu, hk⟩
theorem append_ok {t t' e e' : Nat} {dt dt' de : TD} {ty : TypeId} (hd : T t = some dt) (hk : dt.k = .slice e) (hd' : T t' = some dt') (hk' : dt'.k = .slice e') (hde : T e = some de) {x y : AV} {u v : Value} (ha : eAppend de x y h K) (hx : VRel s x u) (hy : VRel s y v) :
    EffOk P s h (do pure (Next.value (← Builtin.append_ #[t, t'] ty #[u, v]))) K := by
  obtain ⟨desc, hu, hkd⟩ := (hT t dt hd).under
  rw [hk] at hkd; simp only [KOk] at hkd; subst hkd
  obtain ⟨desc', hu', hkd'⟩ := (hT t' dt' hd').under
  rw [hk'] at hkd'; simp only [KOk] at hkd'; subst hkd'
  have hke := hT e de hde
  obtain ⟨i0, z0, hi, his, hib, hzi, hzs, hzr, hza, hzn⟩ := hke.info
  unfold eAppend at ha
  -- nothing happens
  have same : (∀ w, (Builtin.append_ #[t, t'] ty #[u, v]).run P w = .ok u w) → K x h [] → EffOk P s h (do pure (Next.value (← Builtin.append_ #[t, t'] ty #[u, v]))) K := fun hr hK =>
    eff_val (hr s.w) (Ev.refl s) (prefix_refl' _) hh hx (fun _ _ hl => ⟨hl, fun _ _ => rfl⟩) hK
  have first0 : ∀ (sz : Nat) (w : World) (q : Option Addr) (cp : Nat), (Builtin.firstCells sz 0 (.slice q 0 cp)).run P w = .ok #[] w := fun sz w q cp => by
    cases q <;> simp [Builtin.firstCells, loadCells, loadCellsFrom]
  have R := rowsIn_ok hT hh hy ha
  clear ha
  rcases R with ⟨rfl, ha⟩ | ⟨b2, i2, z2, n2, c2, ex2, sig, l2, o2, rfl, ho2, hc2, hz2, hle2, ha⟩
  · have hy' := hy
    simp only [VRel] at hy'
    subst hy'
    split at ha
    · simp only [VRel] at hx
      subst hx
      refine same (fun w => ?_) ha
      exact run_append2_room w t t' ty e e' i0 hu hu' hi none 0 0 none 0 0 [] (first0 _ _ _ _) (Nat.le_refl _) w rfl
    · have hx' := hx
      simp only [VRel] at hx'
      obtain ⟨a, cap, rfl, e1, e2, e3, e4, e5, e6⟩ := hx'
      refine same (fun w => ?_) ha
      rename_i n c ex
      have := run_append2_room (P := P) w t t' ty e e' i0 hu hu' hi a n.v cap none 0 0 [] (first0 _ _ _ _) (by omega) w (by cases a <;> simp [storeCells])
      simpa using this
    · exact ha.elim
  · obtain ⟨au, capu, news, rfl, v1, v2, v3, v4, v5, v6, v7, v8⟩ := first_ok hT hh hy ho2 hc2 hz2 hle2
    split at ha
    · exact ha.elim
    · split at ha
      · exact ha.elim
      · rename_i hsz
        have hsz := Nat.eq_of_beq_eq_true hsz
        rw [len_eq] at hsz
        have hisz : i0.size = z2 := by rw [his, hsz, hz2]
        rw [← hisz] at v4 v1
        obtain ⟨_, _, h0sig⟩ := base_rows hT hh ho2 hc2
        have hxl : (((l2 ()).drop i2.v).take n2.v).length = n2.v := by simp; omega
        have hn1 : news.length = (((l2 ()).drop i2.v).take n2.v).length * sig.length := by rw [v1, hxl, hisz, hz2]
        split at ha
        · exact ha.elim
        · rename_i hbpos
          have hbpos := Nat.le_of_ble_eq_true hbpos
          have h47 : ∀ n : Nat, n * de.bytes ≤ maxBytes → n ≤ 140737488355328 := fun n hn => by
            unfold maxBytes at hn
            have : n * 1 ≤ n * de.bytes := Nat.mul_le_mul_left _ (by omega)
            omega
          -- over to new memory
          have grow : ∀ (base : Option Addr) (sLen sCap : Nat) (olds : List Value) (r1 : List (List D)) (hk : Heap) (tc : List Tch) (nn : NX), HRel s hk → Un s s h hk tc → nn.v = sLen + n2.v →
              olds.length = r1.length * sig.length → r1.length = sLen → DIn s sig (fun j => olds[j]?) r1 → (∀ w : World, (∀ x, w.cell? x = s.w.cell? x) → (Builtin.firstCells i0.size sLen (.slice base sLen sCap)).run P w = .ok olds.toArray w) →
              sCap < sLen + n2.v → (sLen + n2.v) * de.bytes ≤ maxBytes → ∀ l : Unit → List (List D), l () = r1 ++ ((l2 ()).drop i2.v).take n2.v →
              K (.sl (len hk) (.l 0) (.l 0) sig.length nn nn false) (hk ++ [some ⟨true, .rows sig l⟩]) tc →
              EffOk P s h (do pure (Next.value (← Builtin.append_ #[t, t'] ty #[.slice base sLen sCap, .slice au n2.v capu]))) K := by
            intro base sLen sCap olds r1 hk tc nn hhk hun hnn ho1 ho2' hdo hfo hg hbytes l hl hK
            have h47' := h47 _ hbytes
            have hr := run_append2_grow (P := P) s.w t t' ty e e' i0 z0 hu hu' hi hzi base sLen sCap olds (hfo s.w.drew fun _ => rfl) au n2.v capu news (v4 s.w.drew fun _ => rfl) hg (by omega) (growslice_fits hg (by rw [hib]; exact hbytes))
            have hgc : sLen + n2.v ≤ grownCap s.w (sLen + n2.v) sCap e := by unfold grownCap Question.cut; exact Nat.le_add_right _ _
            have hrel := grow_ok (drew_ok hhk) (arr := olds.toArray ++ news.toArray ++ Builtin.zeroCells z0.cells (grownCap s.w (sLen + n2.v) sCap e - (sLen + n2.v))) (c := .rows sig l) e ⟨h0sig, by
              rw [hl]
              have := (hdo.cat (rest := (Builtin.zeroCells z0.cells (grownCap s.w (sLen + n2.v) sCap e - (sLen + n2.v))).toList) ho1 v2)
              refine DIn.mono (drew_ev s) this fun n => ?_
              simp only [← Array.getElem?_toList]
              simp⟩
            refine eff_val (tc := tc) (s' := s.drew.grow _ e (szOf (.rows sig l))) hr ((drew_ev s).trans (grow_ev _ _ _ _)) ⟨_, rfl⟩ hrel ?_ ?_ hK
            · refine grown_slice hT hh (drew_ok hhk) hnn h0sig hgc ?_
              have hzc : (Builtin.zeroCells z0.cells (grownCap s.w (sLen + n2.v) sCap e - (sLen + n2.v))).size = (grownCap s.w (sLen + n2.v) sCap e - (sLen + n2.v)) * sig.length := by
                simp [Builtin.zeroCells, hzs, hsz]
              simp only [Array.size_append, hzc, List.size_toArray, ho1, v1, ho2', hisz, ← hz2]
              rw [← Nat.add_mul, ← Nat.add_mul]
              exact Nat.mul_le_mul_right _ (by omega)
            · refine hun.trans (prefix_refl' _) ?_ (fun _ h => h)
              exact (drew_un (tc := tc)).trans (s' := s.drew) (tc' := tc) (prefix_refl' _) (grow_un (drew_ok hhk) _ _ _ _ _) fun _ h => h
          split at ha
          · have hx' := hx
            simp only [VRel] at hx'
            subst hx'
            cases ha with
            | mk hb ha =>
              by_cases hn0 : n2.v = 0
              · -- still nil
                have hr := run_append2_room (P := P) s.w t t' ty e e' i0 hu hu' hi none 0 0 au n2.v capu news (v4 s.w fun _ => rfl) (by omega) s.w rfl
                refine eff_val (s' := { s with base := s.base ++ [((none : Option Addr), sig.length)] }) hr ⟨Nat.le_refl _, fun _ _ _ => rfl, fun _ _ => rfl, fun _ h => .inl h, rfl, rfl, rfl⟩ (List.prefix_append _ _) (nilobj_ok hh h0sig ?_) ?_ ?_ ha
                · simp [hn0]
                · simp only [VRel]
                  refine ⟨none, 0, by rw [hn0], Nat.le_refl _, by omega, (fun h => by cases h), by rw [len_eq]; exact h0sig, by simp [len_eq, hh.len], .inl rfl⟩
                · exact fun tt _ hl => ⟨append_live hl _, fun _ _ => rfl⟩
              · refine grow none 0 0 [] [] h [] n2 hh (fun _ _ hl => ⟨hl, fun _ _ => rfl⟩) (by simp) (by simp) rfl ⟨fun i r hr => by simp [nth] at hr, fun i j r k d hr => by simp [nth] at hr⟩ (fun w _ => first0 _ _ _ _) (by omega) (by simpa using hb) (fun _ => ((l2 ()).drop i2.v).take n2.v) rfl ?_
                rw [← len_eq sig]
                exact ha
          · rename_i b i f z n c ex
            split at ha
            · rename_i o ho
              split at ha
              · rename_i sig' l hc
                split at ha
                · split at ha
                  · rename_i hsig
                    obtain rfl := sigEq_eq hsig
                    split at ha
                    · rename_i hz
                      have hz := Nat.eq_of_beq_eq_true hz
                      rw [len_eq] at hz
                      subst hz
                      obtain ⟨hle, ha⟩ := leN_ok ha
                      rw [nAdd_v] at hle
                      cases ha with
                      | mk hb ha =>
                        have hle' : i.v + n.v ≤ (l ()).length := hle
                        obtain ⟨a, cap, olds, rfl, o1, o2, o3, o4, o5, o6, o7, o8⟩ := first_ok hT hh hx ho hc rfl hle'
                        have hl1 : (((l ()).drop i.v).take n.v).length = n.v := by simp; omega
                        have hzz : i0.size = sig'.length := by rw [hisz, ← hz2]
                        rw [← hzz] at o4
                        -- the write in place
                        have room : n.v + n2.v ≤ cap → o.mt = true → cap ≠ 0 → ∃ (ad a0 : Addr), a = some ad ∧ nth s.base b = some (some a0, sig'.length) ∧ ad.spot = none ∧ ad.block = a0.block ∧ ad.off = a0.off + i.v * sig'.length ∧ s.own a0.block ∧
                            (Builtin.append_ #[t, t'] ty #[.slice a n.v cap, .slice au n2.v capu]).run P s.w = .ok (.slice a (n.v + n2.v) cap) (s.write a0.block (ad.off + n.v * sig'.length) news).w ∧
                            (∀ j, j < news.length → (s.w.cell? ⟨a0.block, ad.off + n.v * sig'.length + j, none⟩).isSome = true) ∧ ∃ t m, s.w.shape? ad.block = some (t, m) ∧ ad.off + cap * sig'.length ≤ m := by
                          intro hroom hm hcap
                          rcases o8 with o8 | ⟨ad, rfl, hp, ts, m, hsh, hsm⟩
                          · omega
                          · obtain ⟨a0, sz, hb0, hsp0, had, hfl, hcont⟩ := obj_at hT hh hp ho
                            obtain ⟨_, hb1, _⟩ := base_rows hT hh ho hc
                            rw [hb0] at hb1
                            simp at hb1
                            obtain ⟨_, rfl⟩ := hb1
                            obtain ⟨hown, hfro⟩ := flags_own hT hh hm hfl
                            have hab : ad.block = a0.block := by rw [had]
                            have hcell : ∀ j, j < news.length → (s.w.cell? ⟨a0.block, ad.off + n.v * sig'.length + j, none⟩).isSome = true := fun j hj => by
                              rw [← hab]
                              refine shape_cell hsh ?_
                              rw [hn1, hxl] at hj
                              have : (n.v + n2.v) * sig'.length ≤ cap * sig'.length := Nat.mul_le_mul_right _ hroom
                              rw [Nat.add_mul] at this
                              omega
                            refine ⟨ad, a0, rfl, hb0, by rw [had], hab, by rw [had]; rfl, hown, ?_, hcell, ts, m, hsh, hsm⟩
                            refine run_append2_room (P := P) s.w t t' ty e e' i0 hu hu' hi (some ad) n.v cap au n2.v capu news (v4 s.w fun _ => rfl) hroom _ ?_
                            have hst := run_storeCells_cells (P := P) a0.block (ad.off + n.v * sig'.length) news 0 s.w (fun j hj => by simpa using hcell j hj) (fun j _ => hfro _) v3
                            simp only [Nat.add_zero] at hst
                            simp only [hzz]
                            rw [add_none hT (place_spot hT hp), hab]
                            exact hst
                        cases ha with
                        | inplace hm hfit ha =>
                          by_cases hcap : cap = 0
                          · have hn0 : n2.v = 0 := by omega
                            have hnn : n.v = 0 := by omega
                            have hns : news = [] := by rw [← List.length_eq_zero_iff, v1, hn0]; simp
                            have hr := run_append2_room (P := P) s.w t t' ty e e' i0 hu hu' hi a n.v cap au n2.v capu news (v4 s.w fun _ => rfl) (by omega) s.w (by subst hns; cases a <;> simp [storeCells])
                            refine eff_val (s' := s) hr (Ev.refl s) (prefix_refl' _) (same_ok (l := l) hh ho hm hc ?_) ?_ (fun tt _ hl => ⟨write_live ho _ hl, fun _ _ => rfl⟩) ha
                            · simp [hn0]
                            · rw [show n.v + n2.v = n.v by omega]
                              simp only [VRel] at hx ⊢
                              obtain ⟨a', cap', q1, q2⟩ := hx
                              refine ⟨a', cap', ?_, ?_⟩
                              · rw [nAdd_v, hn0]; exact q1
                              · rw [nAdd_v, hn0]; exact q2
                          · obtain ⟨ad, a0, rfl, hb0, hsp, hab, hoff, hown, hr, hcell, ts, m, hsh, hsm⟩ := room (by omega) hm hcap
                            refine eff_val (s' := s.write a0.block (ad.off + n.v * sig'.length) news) hr (write_ev hown _ _) (prefix_refl' _) (write_ok hh ho hm hb0 (c := .rows sig' _) ?_) ?_ (write_un hh ho hm hb0 _ _ (.inl (by simp))) ha
                            · have := rows_write hh ho hm hc hb0 v2 hn1 hle' (off := ad.off + n.v * sig'.length) (by rw [hoff, Nat.add_mul]; omega) hcell
                              rw [hxl] at this
                              exact this
                            · have hE := write_ev hown (ad.off + n.v * sig'.length) news
                              have hx2 := VRel.mono hE (prefix_refl' _) _ _ hx
                              simp only [VRel, nAdd_v] at hx2 ⊢
                              obtain ⟨a', cap', q1, q2, q3, q4, q5⟩ := hx2
                              simp at q1
                              obtain ⟨rfl, rfl⟩ := q1
                              exact ⟨_, _, rfl, hfit, q3, q4, q5⟩
                        | either hm ha =>
                          by_cases hroom : n.v + n2.v ≤ cap
                          · by_cases hcap : cap = 0
                            · have hn0 : n2.v = 0 := by omega
                              have hnn : n.v = 0 := by omega
                              have hns : news = [] := by rw [← List.length_eq_zero_iff, v1, hn0]; simp
                              have hr := run_append2_room (P := P) s.w t t' ty e e' i0 hu hu' hi a n.v cap au n2.v capu news (v4 s.w fun _ => rfl) (by omega) s.w (by subst hns; cases a <;> simp [storeCells])
                              refine eff_val (s' := { s with base := s.base ++ [((none : Option Addr), sig'.length)] }) hr ⟨Nat.le_refl _, fun _ _ _ => rfl, fun _ _ => rfl, fun _ h => .inl h, rfl, rfl, rfl⟩ (List.prefix_append _ _) (nilobj_ok (kill_ok hh b) h0sig ?_) ?_ ?_ ha
                              · simp [hn0, hnn]
                              · simp only [VRel]
                                refine ⟨a, cap, by rw [nAdd_v], Nat.le_refl _, by rw [nAdd_v]; omega, (fun h => by cases h), h0sig, by simp [len_eq, hh.len, upd_eq], .inl hcap⟩
                              · intro tt htt hl
                                exact ⟨append_live (upd_none_live (clash_obj (List.mem_singleton.2 rfl) htt) hl _) _, fun _ _ => rfl⟩
                            · obtain ⟨ad, a0, rfl, hb0, hsp, hab, hoff, hown, hr, hcell, ts, m, hsh, hsm⟩ := room hroom hm hcap
                              have hE := write_ev hown (ad.off + n.v * sig'.length) news
                              have hrw := rows_write hh ho hm hc hb0 v2 hn1 hle' (off := ad.off + n.v * sig'.length) (by rw [hoff, Nat.add_mul]; omega) hcell
                              rw [hxl] at hrw
                              have hw := write_ok hh ho hm hb0 (c := .rows sig' fun _ => (l ()).take (i.v + n.v) ++ ((l2 ()).drop i2.v).take n2.v ++ (l ()).drop (i.v + n.v + n2.v)) (off := ad.off + n.v * sig'.length) (vs := news) hrw
                              have hob : nth (upd h b (some ⟨true, .rows sig' fun _ => (l ()).take (i.v + n.v) ++ ((l2 ()).drop i2.v).take n2.v ++ (l ()).drop (i.v + n.v + n2.v)⟩)) b = some (some ⟨true, .rows sig' fun _ => (l ()).take (i.v + n.v) ++ ((l2 ()).drop i2.v).take n2.v ++ (l ()).drop (i.v + n.v + n2.v)⟩) := by
                                rw [nth_upd, if_pos rfl, ho]; rfl
                              have hal := alias_ok hw (sig := sig') (l := fun _ => ((l ()).drop i.v).take n.v ++ ((l2 ()).drop i2.v).take n2.v) (off := ad.off) hob rfl (ad := a0) (sz := sig'.length) hb0 h0sig (by
                                have hsft := hrw.2.2.shift i.v (n.v + n2.v)
                                rw [take_drop_mid _ _ _ _ _ hle' hxl] at hsft
                                refine hsft.mono hE fun k => ?_
                                simp only [Sit.mem, hoff, Nat.add_assoc])
                              rw [upd_upd] at hal
                              refine eff_val (s' := { s.write a0.block (ad.off + n.v * sig'.length) news with base := s.base ++ [(some (⟨a0.block, ad.off, none⟩ : Addr), sig'.length)] }) hr (hE.trans ⟨Nat.le_refl _, fun _ _ _ => rfl, fun _ _ => rfl, fun _ h => .inl h, rfl, rfl, rfl⟩) (List.prefix_append _ _) hal ?_ ?_ ha
                              · simp only [VRel, nAdd_v]
                                refine ⟨some ad, cap, rfl, Nat.le_refl _, hroom, (fun h => by cases h), h0sig, by simp [len_eq, hh.len, upd_eq, Sit.write], .inr ⟨ad, rfl, ?_, ts, m, ?_, hsm⟩⟩
                                · refine ⟨⟨a0.block, ad.off, none⟩, sig'.length, ?_, rfl, ?_⟩
                                  · rw [nth_append, if_neg (by simp [len_eq, upd_eq, Sit.write, hh.len])]
                                    simp [len_eq, upd_eq, Sit.write, hh.len, nth]
                                  · simp [zv, ← hab]
                                    rw [← hsp]
                                · simp only [Sit.write]
                                  rw [shape_setCells]; exact hsh
                              · intro tt htt hl
                                have hun := write_un hh ho hm hb0 (⟨true, .rows sig' fun _ => (l ()).take (i.v + n.v) ++ ((l2 ()).drop i2.v).take n2.v ++ (l ()).drop (i.v + n.v + n2.v)⟩) [.obj b] (off := ad.off + n.v * sig'.length) (vs := news) (.inl (by simp)) tt htt hl
                                exact ⟨append_live (upd_none_live (clash_obj (List.mem_singleton.2 rfl) htt) hl _) _, hun.2⟩
                          · refine grow a n.v cap olds _ (upd h b none) [.obj b] (nAdd n n2) (kill_ok hh b) (fun tt htt hl => ⟨upd_none_live (clash_obj (List.mem_singleton.2 rfl) htt) hl _, fun _ _ => rfl⟩) (nAdd_v _ _) (by rw [o1, hl1]) hl1 o2 o4 (by omega) hb (fun _ => ((l ()).drop i.v).take n.v ++ ((l2 ()).drop i2.v).take n2.v) rfl ?_
                            exact ha
                        | fresh hex hfit ha =>
                          refine grow a n.v cap olds _ h [] (nAdd n n2) hh (fun _ _ hl => ⟨hl, fun _ _ => rfl⟩) (nAdd_v _ _) (by rw [o1, hl1]) hl1 o2 o4 (by have := o7 hex; omega) hb (fun _ => ((l ()).drop i.v).take n.v ++ ((l2 ()).drop i2.v).take n2.v) rfl ?_
                          exact ha
                    · exact ha.elim
                  · exact ha.elim
                · exact ha.elim
              · exact ha.elim
            · exact ha.elim
          · exact ha.elim
end
end Go.Sy
end

section
/- Soundness: clear, len, min, max; the builtins. -/
namespace Go.Sy
set_option linter.unusedSimpArgs false
set_option linter.unusedVariables false
set_option linter.unusedSectionVars false
section
variable {P : Program} {T : Tab} (hT : TabOk P T) {s : Sit} {h : Heap} (hh : HRel s h) {K : AV → Heap → List Tch → Prop}
include hT hh
theorem replicate_zero {α : Type} (l : List α) (i : Nat) (x : α) : l.take i ++ List.replicate 0 x ++ l.drop (i + 0) = l := by simp
theorem clear_ok {t e : Nat} {dt de : TD} {ty : TypeId} (hd : T t = some dt) (hk : dt.k = .slice e) (hde : T e = some de) {x : AV} {u : Value} (ha : eClear de x h K) (hx : VRel s x u) :
    EffOk P s h (do pure (Next.value (← Builtin.clear_ #[t] ty #[u]))) K := by
  obtain ⟨desc, hu, hkd⟩ := (hT t dt hd).under
  rw [hk] at hkd; simp only [KOk] at hkd; subst hkd
  have hke := hT e de hde
  obtain ⟨i0, z0, hi, his, hib, hzi, hzs, hzr, hza, hzn⟩ := hke.info
  unfold eClear at ha
  have hnil : ∀ (a : Option Addr) (c : Nat) (w : World), (Builtin.clear_ #[t] ty #[.slice a 0 c]).run P w = .ok (.tuple #[]) w := fun a c w => by
    cases a <;> simp [Builtin.clear_, run_underlying hu]
  split at ha
  · simp only [VRel] at hx
    subst hx
    exact eff_val (s' := s) (hnil _ _ _) (Ev.refl s) (prefix_refl' _) hh (undef_rel s) (fun _ _ hl => ⟨hl, fun _ _ => rfl⟩) ha
  · rename_i b i f z n c ex
    split at ha
    · rename_i o ho
      split at ha
      · rename_i hm
        split at ha
        · rename_i sig l hc
          split at ha
          · split at ha
            · rename_i hsig
              split at ha
              · rename_i hck
                split at hck
                · rename_i hz
                  split at hck
                  · rename_i hsz
                    have hz := Nat.eq_of_beq_eq_true hz
                    have hsz := Nat.eq_of_beq_eq_true hsz
                    rw [len_eq] at hz hsz
                    subst hz
                    obtain ⟨hle, ha⟩ := leN_ok ha
                    rw [nAdd_v] at hle
                    have hle' : i.v + n.v ≤ (l ()).length := hle
                    have hx' := hx
                    simp only [VRel, zv] at hx'
                    obtain ⟨a, cap, rfl, e1, e2, e3, e4, e5, e6⟩ := hx'
                    by_cases hn : n.v = 0
                    · rw [hn]
                      refine eff_val (s' := s) (hnil _ _ _) (Ev.refl s) (prefix_refl' _) (same_ok (l := l) hh ho hm hc ?_) (undef_rel s) (fun tt _ hl => ⟨write_live ho _ hl, fun _ _ => rfl⟩) ha
                      simp [hn]
                    · rcases e6 with e6 | ⟨ad, rfl, hp, ts, m, hsh, hsm⟩
                      · omega
                      · obtain ⟨a0, sz, hb0, hsp0, had, hfl, hcont⟩ := obj_at hT hh hp ho
                        obtain ⟨_, hb1, h0sig⟩ := base_rows hT hh ho hc
                        rw [hb0] at hb1
                        simp at hb1
                        obtain ⟨_, rfl⟩ := hb1
                        obtain ⟨hown, hfro⟩ := flags_own hT hh hm hfl
                        have hab : ad.block = a0.block := by rw [had]
                        have hoff : ad.off = a0.off + i.v * sig.length := by rw [had]; rfl
                        have hzsz : z0.cells.size = sig.length := by rw [hzs, hsz]
                        have hzl : (Builtin.zeroCells z0.cells n.v).toList.length = n.v * sig.length := by simp [Builtin.zeroCells, hzsz]
                        have hcell : ∀ j, j < (Builtin.zeroCells z0.cells n.v).toList.length → (s.w.cell? ⟨a0.block, ad.off + j, none⟩).isSome = true := fun j hj => by
                          rw [← hab]
                          refine shape_cell hsh ?_
                          rw [hzl] at hj
                          have : n.v * sig.length ≤ cap * sig.length := Nat.mul_le_mul_right _ (by omega)
                          omega
                        have hrow : DIn s sig (fun j => (Builtin.zeroCells z0.cells n.v).toList[j]?) (List.replicate n.v (dsOf de.zero)) := by
                          refine rep_rows hck (hzr.rels s) _ fun i' j hi' hj => ?_
                          have hlt : i' * sig.length + j < n.v * sig.length := by
                            have : (i' + 1) * sig.length ≤ n.v * sig.length := Nat.mul_le_mul_right _ (by omega)
                            rw [Nat.succ_mul] at this
                            omega
                          have hm2 : (i' * sig.length + j) % sig.length = j := mod_row hj
                          simp only [Builtin.zeroCells, hzsz, Array.getElem?_toList]
                          simp [hlt, hm2, hzsz, hj]
                        have hone : ∀ x ∈ (Builtin.zeroCells z0.cells n.v).toList, x.oneCell' = true := by
                          intro x hx
                          obtain ⟨q, hq⟩ := List.mem_iff_getElem?.1 hx
                          have hql : q < n.v * sig.length := by rw [← hzl]; exact (List.getElem?_eq_some_iff.1 hq).1
                          have hqr : q / sig.length < (List.replicate n.v (dsOf de.zero)).length := by rw [List.length_replicate]; exact (Nat.div_lt_iff_lt_mul h0sig).2 hql
                          obtain ⟨r, hr⟩ := nth_of_lt hqr
                          obtain ⟨k, hk2⟩ := nth_of_lt (l := sig) (i := q % sig.length) (Nat.mod_lt _ h0sig)
                          obtain ⟨dd, hdd⟩ := nth_of_lt (l := r) (i := q % sig.length) (by rw [hrow.1 _ r hr]; exact Nat.mod_lt _ h0sig)
                          obtain ⟨v, hv, hvr⟩ := hrow.2 _ _ r k dd hr hk2 hdd
                          simp only [Nat.div_add_mod', hq] at hv
                          simp at hv; subst hv
                          cases hvr <;> rfl
                        have hst := run_storeCells_cells (P := P) a0.block ad.off (Builtin.zeroCells z0.cells n.v).toList 0 s.w (fun j hj => by simpa using hcell j hj) (fun j _ => hfro _) hone
                        simp only [Nat.add_zero] at hst
                        have hr : (Builtin.clear_ #[t] ty #[.slice (some ad) n.v cap]).run P s.w = .ok (.tuple #[]) (s.write a0.block ad.off (Builtin.zeroCells z0.cells n.v).toList).w := by
                          have had' : ad = ⟨a0.block, ad.off, none⟩ := by rw [had]
                          rw [← had'] at hst
                          obtain ⟨nn, hnn⟩ : ∃ nn, n.v = nn + 1 := ⟨n.v - 1, by omega⟩
                          rw [hnn] at hst ⊢
                          simp [Builtin.clear_, run_underlying hu, zeroValue, typeInfo, hi, hzi, hst, Sit.write]
                        refine eff_val (s' := s.write a0.block ad.off _) hr (write_ev hown _ _) (prefix_refl' _) (write_ok hh ho hm hb0 (c := .rows sig _) ?_) (undef_rel _) (write_un hh ho hm hb0 _ _ (.inl (by simp))) ha
                        have := rows_write hh ho hm hc hb0 hrow (by rw [hzl, List.length_replicate]) (by omega : i.v ≤ (l ()).length) (off := ad.off) hoff hcell
                        rw [List.length_replicate] at this
                        exact this
                  · cases hck
                · cases hck
              · exact ha.elim
            · exact ha.elim
          · exact ha.elim
        · exact ha.elim
      · exact ha.elim
    · exact ha.elim
  · exact ha.elim
omit hh in
theorem len_ok {t : Nat} {ty : TypeId} {x : AV} {u : Value} {K : AV → Prop} (ha : eLen T t x K) (hx : VRel s x u) : ValOk P s (Builtin.len_ #[t] ty #[u]) K := by
  unfold eLen ti at ha
  split at ha
  · rename_i d hd
    obtain ⟨desc, hu, hkd⟩ := (hT t d hd).under
    split at ha
    · rename_i e hk
      rw [hk] at hkd; simp only [KOk] at hkd; subst hkd
      split at ha
      · simp only [VRel] at hx
        subst hx
        exact ⟨_, .int .i64 0, fun w => by simp [Builtin.len_, run_underlying hu, goInt], by simp [VRel, IX.v], ha⟩
      · simp only [VRel] at hx
        obtain ⟨a, cap, rfl, _⟩ := hx
        exact ⟨_, _, fun w => by simp only [Builtin.len_, Sem.run_bind]; simp [run_underlying hu]; rfl, by simp only [VRel, goInt, ofNat_v], ha⟩
      · exact ha.elim
    · rename_i n e hk
      rw [hk] at hkd; simp only [KOk] at hkd; subst hkd
      exact ⟨_, .int .i64 n, fun w => by simp [Builtin.len_, run_underlying hu, goInt], by simp [VRel, IX.v], ha⟩
    · rename_i e hk
      rw [hk] at hkd; simp only [KOk] at hkd; subst hkd
      split at ha
      · rename_i de hde
        obtain ⟨desc', hu', hkd'⟩ := (hT e de hde).under
        split at ha
        · rename_i n e' hk'
          rw [hk'] at hkd'; simp only [KOk] at hkd'; subst hkd'
          exact ⟨_, .int .i64 n, fun w => by simp [Builtin.len_, run_underlying hu, run_underlying hu', goInt], by simp [VRel, IX.v], ha⟩
        · exact ha.elim
      · exact ha.elim
    · exact ha.elim
  · exact ha.elim
end
theorem minmax_fold {P : Program} {s : Sit} (gt : Bool) (f : Value → Value → Sem Value)
    (hf : ∀ k x y w, (f (.int k x) (.int k y)).run P w = .ok (.int k (mm gt x y)) w) {K : AV → Prop} :
    ∀ (m : Nat) (xs : List AV) (us : List Value), xs.length = m → VRels s xs us → eMinMax gt xs K → ∃ u r, us = u :: r ∧ ValOk P s (r.foldlM f u) K := by
  intro m
  induction m using Nat.strongRecOn with
  | ind m ih =>
    intro xs us hm hr hk
    unfold eMinMax at hk
    split at hk
    · exact hk.elim
    · rename_i k a
      simp only [VRels, VRel] at hr
      obtain ⟨v, r, rfl, rfl, rfl⟩ := hr
      exact ⟨_, _, rfl, .int k a, .int k a.v, fun w => by simp, by simp only [VRel], hk⟩
    · rename_i k a k' b l
      split at hk
      · rename_i hkk
        obtain rfl := kEq_eq hkk
        simp only [VRels, VRel] at hr
        obtain ⟨_, _, rfl, rfl, _, r, rfl, rfl, hr⟩ := hr
        obtain ⟨u, r', e, h1⟩ := ih (l.length + 1) (by simp at hm; omega) (.int k (ix2 _ a b) :: l) (.int k (mm gt a.v b.v) :: r) (by simp)
          (by simp only [VRels, VRel]; exact ⟨_, _, rfl, by rw [ix2_v]; rfl, hr⟩) hk
        simp at e
        obtain ⟨rfl, rfl⟩ := e
        refine ⟨_, _, rfl, ?_⟩
        obtain ⟨av, v, g1, g2, g3⟩ := h1
        exact ⟨av, v, fun w => by rw [List.foldlM_cons]; simp only [Sem.run_bind, hf, Result.andThen_ok]; exact g1 w, g2, g3⟩
      · exact hk.elim
    · exact hk.elim
section
variable {P : Program} {T : Tab} (hT : TabOk P T) {s : Sit} {h : Heap} (hh : HRel s h) {K : AV → Heap → List Tch → Prop}
include hT hh
omit hT in
theorem eff_pure {x : Sem Value} (hv : ValOk P s x fun v => K v h []) : EffOk P s h (do pure (Next.value (← x))) K := by
  obtain ⟨av, v, h1, h2, h3⟩ := hv
  exact eff_val (s' := s) (h1 _) (Ev.refl s) (prefix_refl' _) hh h2 (fun _ _ hl => ⟨hl, fun _ _ => rfl⟩) h3
theorem builtin_ok {b : Builtin} {ts : Array Nat} {ty : TypeId} {cs : Array Bool} {xs : List AV} {us : Array Value} (ha : eBuiltin T b ts.toList xs h K) (hx : VRels s xs us.toList) :
    EffOk P s h (builtin b ts ty cs us) K := by
  obtain ⟨ts⟩ := ts
  obtain ⟨us⟩ := us
  simp only at ha hx
  unfold eBuiltin at ha
  split at ha
  · split at ha
    · split at ha
      · simp only [VRels] at hx
        obtain ⟨v, _, rfl, hx, rfl⟩ := hx
        exact eff_pure hh (len_ok hT ha hx)
      · exact ha.elim
    · exact ha.elim
  · obtain ⟨u, r, rfl, h1⟩ := minmax_fold (P := P) true Builtin.max2 (fun k x y w => by simp [Builtin.max2, mm]) _ xs us rfl hx ha
    exact eff_pure hh (x := Builtin.max_ _ ty _) (by simpa [Builtin.max_] using h1)
  · obtain ⟨u, r, rfl, h1⟩ := minmax_fold (P := P) false Builtin.min2 (fun k x y w => by simp [Builtin.min2, mm]) _ xs us rfl hx ha
    exact eff_pure hh (x := Builtin.min_ _ ty _) (by simpa [Builtin.min_] using h1)
  · split at ha
    · split at ha
      · unfold ti at ha
        split at ha
        · rename_i d hd
          split at ha
          · rename_i e hk
            split at ha
            · rename_i d' hd'
              split at ha
              · rename_i e' hk'
                split at ha
                · rename_i de hde
                  simp only [VRels] at hx
                  obtain ⟨_, _, rfl, hx1, _, _, rfl, hx2, rfl⟩ := hx
                  exact append_ok hT hh hd hk hd' hk' hde ha hx1 hx2
                · exact ha.elim
              · exact ha.elim
            · exact ha.elim
          · exact ha.elim
        · exact ha.elim
      · exact ha.elim
    · exact ha.elim
  · split at ha
    · split at ha
      · unfold ti at ha
        split at ha
        · rename_i d hd
          split at ha
          · rename_i e hk
            split at ha
            · rename_i de hde
              simp only [VRels] at hx
              obtain ⟨_, _, rfl, hx1, rfl⟩ := hx
              exact clear_ok hT hh hd hk hde ha hx1
            · exact ha.elim
          · exact ha.elim
        · exact ha.elim
      · exact ha.elim
    · exact ha.elim
  · exact ha.elim
end
end Go.Sy
end
