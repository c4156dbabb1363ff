/- Put together by a program of this work out of its texts SyO1, SyO2, KpM, KpN, KpO. -/
import Derived.Test.YtlgmbpnlakjefaaDoorM21
import Derived.Carry
import Derived.OpenShut
import Derived.DataReads
import Derived.ChangeOld
import Derived.Test.YtlgmbpnlakjefaaDoorRows
import Derived.ProofKit
import Derived.Test.YtlgmbpnlakjefaaDoorTie
import Derived.Test.YtlgmbpnlakjefaaDoorCards
import Derived.SevenTiedAt
section
/- Arguments opened: what a value that reads as data stands for, whatever its type (numbers, truths, slices, structs, arrays, to any depth); and what a call that touches nothing old leaves. -/
namespace Go.Sy
set_option linter.unusedSimpArgs false
set_option linter.unusedVariables false

/-- a datum is well formed -/
inductive DWf : Kd → D → Prop
  | int (k : IntKind) (n : Int) : (Lit.int k n).wf = true → DWf (.int k) (.i n)
  | bool (b : Bool) : DWf .bool (.b b)
  | sl (sig : List Kd) (rows : List (List D)) : 0 < sig.length → rows.length ≤ maxLen → (∀ (i : Nat) (r : List D), nth rows i = some r → r.length = sig.length) →
      (∀ (i j : Nat) (r : List D) (k : Kd) (d : D), nth rows i = some r → nth sig j = some k → nth r j = some d → DWf k d) → DWf (.sl sig) (.s rows)

def catRep (sig : List Kd) : Nat → List Kd
  | 0 => []
  | n + 1 => sig ++ catRep sig n
theorem catRep_length (sig : List Kd) : ∀ n, (catRep sig n).length = n * sig.length
  | 0 => by simp [catRep]
  | n + 1 => by simp [catRep, catRep_length sig n, Nat.add_mul]; omega
mutual
/-- the kinds of a type's cells -/
def kdsT (P : Program) : Nat → Nat → Option (List Kd)
  | 0, _ => none
  | n + 1, t => match P.underlying t with
    | some .bool => some [.bool]
    | some (.int k) => some [.int k]
    | some (.slice e) => match kdsT P n e with
      | some sig => if 0 < sig.length ∧ P.cellsOf e = sig.length then some [.sl sig] else none
      | none => none
    | some (.array m e) => match kdsT P n e with
      | some sig => if P.cellsOf e = sig.length ∧ P.cellsOf t = m * sig.length then some (catRep sig m) else none
      | none => none
    | some (.struct fs) => match kdsF P n 0 fs.toList with
      | some sig => if P.cellsOf t = sig.length then some sig else none
      | none => none
    | _ => none
def kdsF (P : Program) : Nat → Nat → List Field → Option (List Kd)
  | _, _, [] => some []
  | 0, _, _ :: _ => none
  | n + 1, off, f :: fs => match kdsT P n f.type with
    | some sig => if f.offset = off ∧ P.cellsOf f.type = sig.length then match kdsF P n (off + sig.length) fs with
        | some r => some (sig ++ r)
        | none => none
      else none
    | none => none
end
/-- cells that stand for data of some kinds -/
def Opened (s : Sit) (sig : List Kd) (cs : List Value) : Prop := ∃ ds : List D, ds.length = sig.length ∧ cs.length = sig.length ∧
  ∀ (j : Nat) (k : Kd) (d : D) (v : Value), nth sig j = some k → nth ds j = some d → cs[j]? = some v → DRel s k d v ∧ DWf k d
theorem Opened.nil {s : Sit} : Opened s [] [] := ⟨[], rfl, rfl, fun j k d v h => by cases h⟩
theorem Opened.append {s : Sit} {a b : List Kd} {cs es : List Value} (h : Opened s a cs) (h' : Opened s b es) : Opened s (a ++ b) (cs ++ es) := by
  obtain ⟨d1, l1, m1, h1⟩ := h
  obtain ⟨d2, l2, m2, h2⟩ := h'
  refine ⟨d1 ++ d2, by simp [l1, l2], by simp [m1, m2], fun j k d v hk hd hv => ?_⟩
  rw [nth_append] at hk hd
  by_cases hj : j < a.length
  · rw [if_pos hj] at hk
    rw [if_pos (by omega)] at hd
    rw [List.getElem?_append_left (by omega)] at hv
    exact h1 j k d v hk hd hv
  · rw [if_neg hj] at hk
    rw [if_neg (by omega)] at hd
    rw [List.getElem?_append_right (by omega)] at hv
    rw [l1] at hd
    rw [m1] at hv
    exact h2 _ k d v hk hd hv
theorem Opened.one {s : Sit} {k : Kd} {d : D} {v : Value} (h : DRel s k d v) (h' : DWf k d) : Opened s [k] [v] :=
  ⟨[d], rfl, rfl, fun j k' d' v' hk hd hv => by
    have hj := nth_some_lt hk
    have : j = 0 := by simpa using hj
    subst this
    simp [nth] at hk hd hv
    subst hk; subst hd; subst hv
    exact ⟨h, h'⟩⟩
theorem Opened.catRep {s : Sit} {sig : List Kd} {cs : List Value} : ∀ (n : Nat), cs.length = n * sig.length → (∀ i, i < n → Opened s sig ((cs.drop (i * sig.length)).take sig.length)) → Opened s (catRep sig n) cs
  | 0, hl, _ => by
    have : cs = [] := List.length_eq_zero_iff.1 (by simpa using hl)
    subst this; exact Opened.nil
  | n + 1, hl, h => by
    have h0 := h 0 (by omega)
    simp only [Nat.zero_mul, List.drop_zero] at h0
    have hr : Opened s (Go.Sy.catRep sig n) (cs.drop sig.length) := Opened.catRep (cs := cs.drop sig.length) n (by rw [List.length_drop, hl, Nat.add_mul]; omega) fun i hi => by
      have := h (i + 1) (by omega)
      rw [List.drop_drop]
      rwa [show (i + 1) * sig.length = sig.length + i * sig.length by rw [Nat.add_mul]; omega] at this
    have e : cs = cs.take sig.length ++ cs.drop sig.length := (List.take_append_drop _ _).symm
    rw [e, Go.Sy.catRep]
    exact h0.append hr
theorem cell_shape {w : World} {b o : Nat} {v : Value} (h : w.cell? ⟨b, o, none⟩ = some v) : ∃ t m, w.shape? b = some (t, m) ∧ o < m := by
  unfold World.cell? at h
  unfold World.shape?
  cases hb : w.heap[b]? with
  | none => rw [hb] at h; simp at h
  | some x =>
    rw [hb] at h
    cases x with
    | cells c t f =>
      simp at h
      refine ⟨t, c.size, rfl, ?_⟩
      exact (Array.getElem?_eq_some_iff.1 h).1
    | _ => simp at h
theorem addNone (b o i : Nat) : Addr.add ⟨b, o, none⟩ i = ⟨b, o + i, none⟩ := by simp [Addr.add]
section
variable {H : Type} {enc : TypeId × Value → H} {P : Program} {s : Sit}
theorem underOne {cs : List Value} {v : Value} (h : cs = [v]) : cs[0]? = some v := by subst h; rfl
theorem trod_bool_inv {fuel : Nat} {base : Nat} {spare : Nat → Bool} {held : Bool} {t : Nat} {cs : List Value} {x : DataW H × List MemPlace} (hu : P.underlying t = some .bool) (h : DataW.trod enc P s.w base spare held fuel t cs = some x) : ∃ b, cs = [.bool b] := by
  cases fuel with
  | zero => simp [DataW.trod] at h
  | succ m =>
    unfold DataW.trod at h
    rw [hu] at h
    split at h <;> simp_all
theorem trod_int_inv {fuel : Nat} {base : Nat} {spare : Nat → Bool} {held : Bool} {t : Nat} {k : IntKind} {cs : List Value} {x : DataW H × List MemPlace} (hu : P.underlying t = some (.int k)) (h : DataW.trod enc P s.w base spare held fuel t cs = some x) : ∃ n, cs = [.int k n] ∧ (Lit.int k n).wf = true := by
  cases fuel with
  | zero => simp [DataW.trod] at h
  | succ m =>
    unfold DataW.trod at h
    rw [hu] at h
    split at h <;> simp_all
theorem trod_slice_inv {fuel : Nat} {base : Nat} {held : Bool} {t e : Nat} {cs : List Value} {x : DataW H × List MemPlace} (hu : P.underlying t = some (.slice e)) (h : DataW.trod enc P s.w base (fun _ => true) held fuel t cs = some x) :
    cs = [.slice none 0 0] ∨ ∃ a len cap m, cs = [.slice (some a) len cap] ∧ len ≤ cap ∧ cap ≤ maxLen ∧
      ∀ i, i < cap → ∃ es y, s.w.cells? base (a.add (i * P.cellsOf e)) (P.cellsOf e) = some es ∧ DataW.trod enc P s.w base (fun _ => true) held m e es = some y := by
  cases fuel with
  | zero => simp [DataW.trod] at h
  | succ m =>
    unfold DataW.trod at h
    rw [hu] at h
    split at h <;> try (simp_all; done)
    right
    rename_i a len cap hh
    simp only [Option.some.injEq, TypeDesc.slice.injEq] at hh
    obtain rfl := hh
    simp only at h
    split at h
    · rename_i hc
      refine ⟨a, len, cap, m, rfl, hc.2.1, hc.2.2, fun i hi => ?_⟩
      cases hm : (List.range len).mapM fun i => (s.w.cells? base (a.add (i * P.cellsOf e)) (P.cellsOf e)).bind (DataW.trod enc P s.w base (fun _ => true) held m e) with
      | none => rw [hm] at h; simp at h
      | some elems =>
        cases hm2 : (List.range (cap - len)).mapM fun j => (s.w.cells? base (a.add ((len + j) * P.cellsOf e)) (P.cellsOf e)).bind (DataW.trod enc P s.w base (fun _ => true) held m e) with
        | none => simp only [hm, if_true, Option.bind_some, hm2, Option.map_none] at h; simp at h
        | some rest =>
          by_cases hil : i < len
          · have h1 := mapM_some_get hm i i (by simp [hil])
            have hl := mapM_some_length hm
            have : ∃ y, elems[i]? = some y := ⟨elems[i]'(by rw [hl]; simpa using hil), by simp [hl, hil]⟩
            obtain ⟨y, hy⟩ := this
            rw [hy] at h1
            obtain ⟨es, h2, h3⟩ := Option.bind_eq_some_iff.1 h1
            exact ⟨es, y, h2, h3⟩
          · have h1 := mapM_some_get hm2 (i - len) (i - len) (by rw [List.getElem?_range (by omega)])
            have hl := mapM_some_length hm2
            have : ∃ y, rest[i - len]? = some y := ⟨_, List.getElem?_eq_getElem (by rw [hl, List.length_range]; omega)⟩
            obtain ⟨y, hy⟩ := this
            rw [hy, show len + (i - len) = i by omega] at h1
            obtain ⟨es, h2, h3⟩ := Option.bind_eq_some_iff.1 h1
            exact ⟨es, y, h2, h3⟩
    · simp at h
theorem trod_struct_inv {fuel : Nat} {base : Nat} {spare : Nat → Bool} {held : Bool} {t : Nat} {fs : Array Field} {cs : List Value} {x : DataW H × List MemPlace} (hu : P.underlying t = some (.struct fs)) (h : DataW.trod enc P s.w base spare held fuel t cs = some x) :
    cs.length = P.cellsOf t ∧ ∃ m, ∀ f ∈ fs.toList, ∃ y, DataW.trod enc P s.w base spare held m f.type ((cs.drop f.offset).take (P.cellsOf f.type)) = some y := by
  cases fuel with
  | zero => simp [DataW.trod] at h
  | succ m =>
    unfold DataW.trod at h
    rw [hu] at h
    simp only at h
    split at h
    · rename_i hc
      refine ⟨hc, m, fun f hf => ?_⟩
      cases hm : fs.toList.mapM fun f => DataW.trod enc P s.w base spare held m f.type ((cs.drop f.offset).take (P.cellsOf f.type)) with
      | none => rw [hm] at h; simp at h
      | some elems =>
        obtain ⟨i, hi⟩ := List.getElem?_of_mem hf
        have h1 := mapM_some_get hm i f hi
        have hl := mapM_some_length hm
        have hil := (List.getElem?_eq_some_iff.1 hi).1
        exact ⟨elems[i]'(by omega), by rw [h1]; simp [hl]⟩
    · simp at h
theorem take_take_drop {α : Type} (l : List α) (a b : Nat) : (l.drop a).drop b = l.drop (a + b) := List.drop_drop ..
/-- what reads as data stands for data -/
theorem opened (ho : ∀ b, ¬ s.own b) (hh : ∀ b, ¬ s.hid b) {held : Bool} : ∀ (n : Nat),
    (∀ (fuel t : Nat) (cs : List Value) (x : DataW H × List MemPlace) (sig : List Kd), kdsT P n t = some sig → DataW.trod enc P s.w 0 (fun _ => true) held fuel t cs = some x → Opened s sig cs) ∧
    (∀ (fuel off : Nat) (fs : List Field) (cs : List Value) (sig : List Kd), kdsF P n off fs = some sig → cs.length = off + sig.length → (∀ f ∈ fs, ∃ y, DataW.trod enc P s.w 0 (fun _ => true) held fuel f.type ((cs.drop f.offset).take (P.cellsOf f.type)) = some y) → Opened s sig (cs.drop off))
  | 0 => by
    refine ⟨fun fuel t cs x sig h => by simp [kdsT] at h, fun fuel off fs cs sig h hl _ => ?_⟩
    cases fs with
    | nil =>
      simp [kdsF] at h
      subst h
      rw [List.drop_of_length_le (by simp at hl; omega)]
      exact Opened.nil
    | cons f fs => simp [kdsF] at h
  | n + 1 => by
    obtain ⟨ihT, ihF⟩ := opened ho hh (held := held) n
    refine ⟨fun fuel t cs x sig h ht => ?_, fun fuel off fs cs sig h hl hf => ?_⟩
    · unfold kdsT at h
      split at h
      · rename_i hu
        simp at h; subst h
        obtain ⟨b, rfl⟩ := trod_bool_inv hu ht
        exact Opened.one (.bool b) (.bool b)
      · rename_i k hu
        simp at h; subst h
        obtain ⟨m, rfl, hw⟩ := trod_int_inv hu ht
        exact Opened.one (.int k m) (.int k m hw)
      · rename_i e hu
        split at h
        · rename_i sg hs
          split at h
          · rename_i hc
            simp at h; subst h
            rcases trod_slice_inv hu ht with rfl | ⟨a, ln, cap, m, rfl, h1, h2, h3⟩
            · exact Opened.one (.nil sg none 0 hc.1 (.inl rfl)) (.sl sg [] hc.1 (by simp) (fun i r h => by cases h) fun i j r k d h => by cases h)
            · -- the place, where there is room
                have hplace : cap = 0 ∨ ∃ b o t m, a = ⟨b, o, none⟩ ∧ s.ok b ∧ s.w.shape? b = some (t, m) ∧ o + cap * sg.length ≤ m := by
                  by_cases hcap : cap = 0
                  · exact .inl hcap
                  · right
                    obtain ⟨es0, _, k1, _⟩ := h3 0 (by omega)
                    rw [hc.2] at k1
                    have hl0 := (World.cells?_some k1).2.1
                    have hsp : a.spot = none := by
                      have := (World.cells?_some k1).2.2 0 (by have := hc.1; omega)
                      have h0 : ∃ v, es0[0]? = some v := ⟨_, List.getElem?_eq_getElem (by have := hc.1; omega)⟩
                      obtain ⟨v, hv⟩ := h0
                      rw [hv] at this
                      simpa [Addr.add] using World.cell?_spot this
                    have hlt : a.block < s.w.heap.size := by simpa [Addr.add] using World.cells?_block k1 hc.1
                    obtain ⟨blk, off, spot⟩ := a
                    simp only at hsp hlt
                    subst hsp
                    obtain ⟨es, _, k2, _⟩ := h3 (cap - 1) (by omega)
                    rw [hc.2] at k2
                    have hl2 := (World.cells?_some k2).2.1
                    have := (World.cells?_some k2).2.2 (sg.length - 1) (by have := hc.1; omega)
                    have h0 : ∃ v, es[sg.length - 1]? = some v := ⟨_, List.getElem?_eq_getElem (by have := hc.1; omega)⟩
                    obtain ⟨v, hv⟩ := h0
                    rw [hv, addNone, addNone] at this
                    obtain ⟨t, m, q1, q2⟩ := cell_shape this
                    refine ⟨blk, off, t, m, rfl, ⟨ho _, hh _, hlt⟩, q1, ?_⟩
                    have e1 : cap * sg.length = (cap - 1) * sg.length + sg.length := by
                      obtain ⟨c, rfl⟩ : ∃ c, cap = c + 1 := ⟨cap - 1, by omega⟩
                      rw [Nat.add_sub_cancel, Nat.add_mul]; omega
                    have := hc.1
                    omega
                by_cases hz : ln = 0
                · subst hz
                  refine Opened.one (.nil sg (some a) cap hc.1 ?_) (.sl sg [] hc.1 (by simp) (fun i r h => by cases h) fun i j r k d h => by cases h)
                  rcases hplace with h | ⟨b, o, t, m, h1, h2⟩
                  · exact .inl h
                  · exact .inr ⟨b, o, t, m, by rw [h1], h2⟩
                have hcap0 : cap ≠ 0 := by omega
                have hplace := hplace.resolve_left hcap0
                have h3 : ∀ i, i < ln → ∃ es y, s.w.cells? 0 (a.add (i * P.cellsOf e)) (P.cellsOf e) = some es ∧ DataW.trod enc P s.w 0 (fun _ => true) held m e es = some y := fun i hi => h3 i (by omega)
                have hrow : ∀ i, i < ln → ∃ es, s.w.cells? 0 (a.add (i * sg.length)) sg.length = some es ∧ Opened s sg es := fun i hi => by
                  obtain ⟨es, y, g1, g2⟩ := h3 i hi
                  rw [hc.2] at g1
                  exact ⟨es, g1, ihT m e es y sg hs g2⟩
                have hcell : ∀ i, i < ln → ∃ es ds, s.w.cells? 0 (a.add (i * sg.length)) sg.length = some es ∧ ds.length = sg.length ∧ es.length = sg.length ∧
                    ∀ (j : Nat) (k : Kd) (d : D) (v : Value), nth sg j = some k → nth ds j = some d → es[j]? = some v → DRel s k d v ∧ DWf k d := fun i hi => by
                  obtain ⟨es, g1, ds, g2, g3, g4⟩ := hrow i hi
                  exact ⟨es, ds, g1, g2, g3, g4⟩
                -- the rows, one beside the other
                have hch : ∃ (E : Nat → List Value) (R : Nat → List D), ∀ i, i < ln → s.w.cells? 0 (a.add (i * sg.length)) sg.length = some (E i) ∧ (R i).length = sg.length ∧ (E i).length = sg.length ∧
                    ∀ (j : Nat) (k : Kd) (d : D) (v : Value), nth sg j = some k → nth (R i) j = some d → (E i)[j]? = some v → DRel s k d v ∧ DWf k d := by
                  refine ⟨fun i => if h : i < ln then Classical.choose (hcell i h) else [], fun i => if h : i < ln then Classical.choose (Classical.choose_spec (hcell i h)) else [], fun i hi => ?_⟩
                  simp only [dif_pos hi]
                  exact Classical.choose_spec (Classical.choose_spec (hcell i hi))
                obtain ⟨E, R, hER⟩ := hch
                have hsp : a.spot = none := by
                  obtain ⟨g1, g2, g3, g4⟩ := hER 0 (by omega)
                  have := (World.cells?_some g1).2.2 0 (by omega)
                  have h0 : ∃ v, (E 0)[0]? = some v := ⟨_, List.getElem?_eq_getElem (by omega)⟩
                  obtain ⟨v, hv⟩ := h0
                  rw [hv] at this
                  simpa [Addr.add] using World.cell?_spot this
                have hlt : a.block < s.w.heap.size := by
                  obtain ⟨g1, _⟩ := hER 0 (by omega)
                  simpa [Addr.add] using World.cells?_block g1 hc.1
                obtain ⟨blk, off, spot⟩ := a
                simp only at hsp hlt
                subst hsp
                have hget : ∀ i j, i < ln → j < sg.length → s.w.cell? ⟨blk, off + (i * sg.length + j), none⟩ = (E i)[j]? ∧ ∃ v, (E i)[j]? = some v := fun i j hi hj => by
                  obtain ⟨g1, g2, g3, g4⟩ := hER i hi
                  obtain ⟨_, g5, g6⟩ := World.cells?_some g1
                  have := g6 j (by omega)
                  rw [addNone, addNone, Nat.add_assoc] at this
                  exact ⟨this, _, List.getElem?_eq_getElem (by omega)⟩
                have hnR : ∀ i r, nth ((List.range ln).map R) i = some r → i < ln ∧ r = R i := fun i r hr => by
                  have := nth_some_lt hr
                  simp at this
                  rw [nth_eq] at hr
                  simp [this] at hr
                  exact ⟨this, hr.symm⟩
                have hjs : ∀ {j : Nat} {k : Kd}, nth sg j = some k → j < sg.length := fun h => nth_some_lt h
                have := DRel.sl (s := s) sg ((List.range ln).map R) blk off cap (fun i j => (E i).getD j .nilFunc) ⟨ho _, hh _, hlt⟩ hc.1 (by simpa using hz) (by simpa using h1) (by obtain ⟨b, o, t, m, e1, _, e2, e3⟩ := hplace; cases e1; exact ⟨t, m, e2, e3⟩)
                  (fun i r hr => by obtain ⟨g1, rfl⟩ := hnR i r hr; exact (hER i g1).2.1)
                  (fun i j r k d hr hk hd => by
                    obtain ⟨g1, rfl⟩ := hnR i r hr
                    obtain ⟨g2, v, g3⟩ := hget i j g1 (hjs hk)
                    rw [g2, g3, List.getD_eq_getElem?_getD, g3]; rfl)
                  (fun i j r k d hr hk hd => by
                    obtain ⟨g1, rfl⟩ := hnR i r hr
                    obtain ⟨g2, v, g3⟩ := hget i j g1 (hjs hk)
                    rw [List.getD_eq_getElem?_getD, g3]
                    exact ((hER i g1).2.2.2 j k d v hk hd g3).1)
                simp only [List.length_map, List.length_range] at this
                refine Opened.one this (.sl sg _ hc.1 (by simp; omega) (fun i r hr => by obtain ⟨g1, rfl⟩ := hnR i r hr; exact (hER i g1).2.1) fun i j r k d hr hk hd => ?_)
                obtain ⟨g1, rfl⟩ := hnR i r hr
                obtain ⟨g2, v, g3⟩ := hget i j g1 (hjs hk)
                exact ((hER i g1).2.2.2 j k d v hk hd g3).2
          · simp at h
        · simp at h
      · rename_i m e hu
        split at h
        · rename_i sg hs
          split at h
          · rename_i hc
            simp at h; subst h
            obtain ⟨xs, fu, _, _, g1, g2, g3⟩ := DataW.trod_array hu ht
            refine Opened.catRep m (by rw [g1, hc.2]) fun i hi => ?_
            have := g3 i hi
            rw [hc.1] at this
            exact ihT fu e _ (xs[i]'(by omega)) sg hs (by rw [this]; simp [g2, hi])
          · simp at h
        · simp at h
      · rename_i fs hu
        split at h
        · rename_i sg hs
          split at h
          · rename_i hc
            simp at h; subst h
            obtain ⟨g1, m, g2⟩ := trod_struct_inv hu ht
            have := ihF m 0 fs.toList cs sg hs (by omega) g2
            simpa using this
          · simp at h
        · simp at h
      · simp at h
    · cases fs with
      | nil =>
        simp [kdsF] at h
        subst h
        rw [List.drop_of_length_le (by simp at hl; omega)]
        exact Opened.nil
      | cons f fs =>
        unfold kdsF at h
        split at h
        · rename_i sg hs
          split at h
          · rename_i hc
            split at h
            · rename_i r hr
              simp at h; subst h
              obtain ⟨y, hy⟩ := hf f (by simp)
              have h1 := ihT fuel f.type _ y sg hs hy
              rw [hc.1, hc.2] at h1
              have h2 := ihF fuel (off + sg.length) fs cs r hr (by rw [hl]; simp; omega) fun g hg => hf g (by simp [hg])
              have e : cs.drop off = (cs.drop off).take sg.length ++ cs.drop (off + sg.length) := by rw [← List.drop_drop]; exact (List.take_append_drop _ _).symm
              rw [e]
              exact h1.append h2
            · simp at h
          · simp at h
        · simp at h
end
end Go.Sy
end

section
/- The way from a contract to a row: what a call that owns nothing old leaves as it was. -/
namespace Go.Sy
set_option linter.unusedSimpArgs false
set_option linter.unusedVariables false

/-- at a call's begin: nothing is owned, nothing is hidden -/
def sit0 (W : World) : Sit := ⟨W, [], fun _ => False, fun _ => False⟩
/-- all that was there is as it was -/
structure Old (W W' : World) : Prop where
  os : W'.os = W.os
  out : W'.output = W.output
  block : ∀ k, k < W.heap.size → W'.heap[k]? = W.heap[k]?
theorem Ev.old {W : World} {s' : Sit} (h : Ev (sit0 W) s') : Old W s'.w := ⟨h.wos, h.wout, fun k hk => h.keep k hk (fun e => e)⟩
theorem Old.frame {W W' : World} (h : Old W W') (may : MemPlace → Prop) : W.keptBut W' may := by
  refine ⟨h.os, h.out, fun i hi => ?_⟩
  rw [h.block i hi]
  split <;> simp_all
theorem Old.same {W W' : World} (h : Old W W') {p : MemPlace} (hp : p.block < W.heap.size) : W.sameAt W' p := by
  cases p with
  | cell b o => exact World.cell?_of_block (w := W) (h.block b hp)
  | map b => exact h.block b hp
def typesOk (P : Program) : List TypeId → Bool
  | [] => true
  | t :: l => P.readableRec t && decide (t < P.types.size) && typesOk P l
theorem Old.trodAll {H : Type} {enc : TypeId × Value → H} {P : Program} (hl : laidOutB P = true) {W W' : World} (ho : Old W W') : ∀ {ts : List TypeId} {vs : List Value} {ds : List (DataW H)} {ps : List MemPlace},
    typesOk P ts = true → DataW.TrodAll enc P W 0 (fun _ => true) true ts vs ds ps → (∀ x ∈ ps, x.block < W.heap.size) → DataW.TrodAll enc P W' 0 (fun b => decide (b < W.heap.size)) true ts vs ds ps
  | [], vs, ds, ps, _, h, _ => by
    cases vs <;> cases ds <;> simp_all [DataW.TrodAll]
  | t :: ts, vs, ds, ps, hk, h, hlt => by
    simp only [typesOk, Bool.and_eq_true, decide_eq_true_eq] at hk
    cases vs with
    | nil => simp [DataW.TrodAll] at h
    | cons v vs =>
      cases ds with
      | nil => simp [DataW.TrodAll] at h
      | cons d ds =>
        obtain ⟨p, q, h1, h2, rfl⟩ := h
        exact ⟨p, q, WideElems.Trod_stays hl hk.1.1 hk.1.2 h1 (fun x hx => ho.same (hlt x (by simp [hx]))) (fun x hx => by simpa using hlt x (by simp [hx])), ho.trodAll hl hk.2 h2 fun x hx => hlt x (by simp [hx]), rfl⟩
/-- the result is true, whatever else -/
def isTrue (av : AV) (_ : Heap) : Prop := ∀ s v, VRel s av v → v = .bool true
theorem isTrue_lit {h : Heap} : isTrue (.bool (.l true)) h := fun s v hr => by simpa [VRel, BX.v] using hr
theorem isTrue_t {h : Heap} {f : Unit → Bool} (e : f () = true) : isTrue (.bool (.t f)) h := fun s v hr => by simpa [VRel, BX.v, e] using hr
theorem HRel.zero (W : World) (hf : Fix (sit0 W)) : HRel (sit0 W) [] := ⟨rfl, fun j o h => (by cases h), fun j k o q a b z y h => (by cases h), fun b h => h.elim, fun b h => h.elim, fun b h => h.elim, hf⟩
theorem Sound.law {P : Program} {f : FuncId} {C : Con} (hS : Sound P f C) {W : World} {args : List AV} {vals : List Value} (hf : Fix (sit0 W)) (hv : VRels (sit0 W) args vals) (hc : C args [] isTrue) :
    Calls P f vals.toArray W fun e W' => e = .returned (.bool true) ∧ Old W W' := by
  refine Calls.mono (hS (sit0 W) [] args vals isTrue (HRel.zero W hf) hv hc) ?_
  rintro e W' ⟨s', v, av, h', rfl, rfl, hE, _, _, hr, hk⟩
  exact ⟨by rw [hk s' v hr], hE.old⟩

/-! ### one argument: what its value stands for -/
/-- a type's row of cells, by its data -/
def DsOk (sig : List Kd) (ds : List D) : Prop := ds.length = sig.length ∧ ∀ (j : Nat) (k : Kd) (d : D), nth sig j = some k → nth ds j = some d → DWf k d
section
variable {H : Type} {enc : TypeId × Value → H} {P : Program} {W : World}
theorem opened0 {held : Bool} {n t : Nat} {v : Value} {d : DataW H} {ps : List MemPlace} {sig : List Kd} (hk : kdsT P n t = some sig) (h : DataW.Trod enc P W 0 (fun _ => true) held t v d ps) : Opened (sit0 W) sig v.cells.toList := by
  obtain ⟨fuel, hf⟩ := h
  exact (opened (s := sit0 W) (fun b h => h) (fun b h => h) n).1 fuel t _ _ sig hk hf
theorem Opened.agg {s : Sit} {sig : List Kd} {cs : Array Value} (h : Opened s sig cs.toList) : ∃ ds, DsOk sig ds ∧ VRel s (.agg (cellsOf (fun _ => ds) sig 0)) (.agg cs) := by
  obtain ⟨ds, h1, h2, h3⟩ := h
  refine ⟨ds, ⟨h1, fun j k d hk hd => ?_⟩, ?_⟩
  · have hj := nth_some_lt hk
    exact (h3 j k d _ hk hd (List.getElem?_eq_getElem (by omega))).2
  · simp only [VRel]
    refine ⟨cs, rfl, cellsOf_rel sig 0 cs.toList h2 fun i k hk => ?_⟩
    have hi := nth_some_lt hk
    have hd : nth ds i = some (ds.getD (0 + i) (.i 0)) := by
      rw [nth_eq, List.getD_eq_getElem?_getD, Nat.zero_add, List.getElem?_eq_getElem (by omega)]; rfl
    exact ⟨_, List.getElem?_eq_getElem (by omega), (h3 i k _ _ hk hd (List.getElem?_eq_getElem (by omega))).1⟩
/-- rows of m data each -/
def rowsD (m : Nat) : Nat → List D → List (List D)
  | 0, _ => []
  | n + 1, l => l.take m :: rowsD m n (l.drop m)
theorem rowsD_length (m : Nat) : ∀ n l, (rowsD m n l).length = n
  | 0, _ => rfl
  | n + 1, l => by simp [rowsD, rowsD_length m n]
theorem rowsD_nth (m : Nat) : ∀ n (l : List D) i, i < n → nth (rowsD m n l) i = some ((l.drop (i * m)).take m)
  | 0, _, _, h => by omega
  | n + 1, l, 0, _ => by simp [rowsD, nth]
  | n + 1, l, i + 1, h => by
    simp only [rowsD, nth]
    rw [rowsD_nth m n _ i (by omega), List.drop_drop, show (i + 1) * m = m + i * m by rw [Nat.add_mul]; omega]
theorem catRep_nth (sig : List Kd) : ∀ n i j, i < n → j < sig.length → nth (catRep sig n) (i * sig.length + j) = nth sig j
  | 0, _, _, h, _ => by omega
  | n + 1, 0, j, _, hj => by
    simp only [catRep, nth_append]
    rw [if_pos (by omega)]; congr 1; omega
  | n + 1, i + 1, j, h, hj => by
    simp only [catRep, nth_append]
    have e : (i + 1) * sig.length + j = sig.length + (i * sig.length + j) := by rw [Nat.add_mul]; omega
    rw [e, if_neg (by omega), Nat.add_sub_cancel_left]
    exact catRep_nth sig n i j (by omega) hj
theorem Opened.arr {s : Sit} {sig : List Kd} {n : Nat} {cs : Array Value} (h0 : 0 < sig.length) (h : Opened s (Go.Sy.catRep sig n) cs.toList) : ∃ ds, DsOk (Go.Sy.catRep sig n) ds ∧ VRel s (.arr sig fun _ => rowsD sig.length n ds) (.agg cs) := by
  obtain ⟨ds, h1, h2, h3⟩ := h
  have hl := catRep_length sig n
  refine ⟨ds, ⟨h1, fun j k d hk hd => ?_⟩, ?_⟩
  · have hj := nth_some_lt hk
    exact (h3 j k d _ hk hd (List.getElem?_eq_getElem (by omega))).2
  · simp only [VRel]
    have hlen : ∀ i, i < n → i * sig.length + sig.length ≤ n * sig.length := fun i hi => by
      have := Nat.mul_le_mul_right sig.length (show i + 1 ≤ n from hi)
      rw [Nat.add_mul] at this; omega
    refine ⟨cs, rfl, by rw [rowsD_length]; simpa [hl] using h2, h0, fun i r hr => ?_, fun i j r k d hr hk hd => ?_⟩
    · have hi := nth_some_lt hr
      rw [rowsD_length] at hi
      rw [rowsD_nth _ _ _ _ hi] at hr
      simp at hr; subst hr
      have := hlen i hi
      simp; omega
    · have hi := nth_some_lt hr
      rw [rowsD_length] at hi
      rw [rowsD_nth _ _ _ _ hi] at hr
      simp at hr; subst hr
      have hj := nth_some_lt hk
      have := hlen i hi
      have hd' : nth ds (i * sig.length + j) = some d := by
        rw [nth_eq] at hd ⊢
        rw [List.getElem?_take_of_lt hj, List.getElem?_drop] at hd
        exact hd
      have hk' := catRep_nth sig n i j hi hj
      rw [hk] at hk'
      have hc : cs.toList[i * sig.length + j]? = some (cs.toList[i * sig.length + j]'(by rw [h2, hl]; omega)) := List.getElem?_eq_getElem _
      exact ⟨_, (Array.getElem?_toList (xs := cs)).symm.trans hc, (h3 _ k d _ hk' hd' hc).1⟩
/-! the arguments' own forms -/
theorem arg_agg {n t : Nat} {r : Reach} {b0 : Nat} {v : Value} {d : DataW H} {ps : List MemPlace} {sig : List Kd} (hk : kdsT P n t = some sig) (hagg : (match P.underlying t with | some (.struct _) | some (.array _ _) => true | _ => false) = true)
    (hval : Value.okWide P W r b0 t v) (h : DataW.Trod enc P W 0 (fun _ => true) true t v d ps) : ∃ ds, DsOk sig ds ∧ VRel (sit0 W) (.agg (cellsOf (fun _ => ds) sig 0)) v := by
  have hv : ∃ cs, v = .agg cs := by
    unfold Value.okWide at hval
    split at hval
    · obtain ⟨cs, rfl, _⟩ := hval; exact ⟨cs, rfl⟩
    · obtain ⟨cs, rfl, _⟩ := hval; exact ⟨cs, rfl⟩
    · split at hagg <;> simp_all
  obtain ⟨cs, rfl⟩ := hv
  exact (opened0 hk h).agg
theorem arg_arr {n t m : Nat} {r : Reach} {b0 : Nat} {v : Value} {d : DataW H} {ps : List MemPlace} {sig : List Kd} (h0 : 0 < sig.length) (hk : kdsT P n t = some (catRep sig m)) (hagg : (match P.underlying t with | some (.struct _) | some (.array _ _) => true | _ => false) = true)
    (hval : Value.okWide P W r b0 t v) (h : DataW.Trod enc P W 0 (fun _ => true) true t v d ps) : ∃ ds, DsOk (catRep sig m) ds ∧ VRel (sit0 W) (.arr sig fun _ => rowsD sig.length m ds) v := by
  have hv : ∃ cs, v = .agg cs := by
    unfold Value.okWide at hval
    split at hval
    · obtain ⟨cs, rfl, _⟩ := hval; exact ⟨cs, rfl⟩
    · obtain ⟨cs, rfl, _⟩ := hval; exact ⟨cs, rfl⟩
    · split at hagg <;> simp_all
  obtain ⟨cs, rfl⟩ := hv
  exact (opened0 hk h).arr h0
theorem arg_one {n t : Nat} {v : Value} {d : DataW H} {ps : List MemPlace} {k : Kd} (hk : kdsT P n t = some [k]) (hone : v.cells.toList = [v]) (h : DataW.Trod enc P W 0 (fun _ => true) true t v d ps) : ∃ e, DWf k e ∧ VRel (sit0 W) (cellOf k fun _ => e) v := by
  have := opened0 hk h
  rw [hone] at this
  obtain ⟨ds, h1, h2, h3⟩ := this
  obtain ⟨e, rfl⟩ : ∃ e, ds = [e] := by
    match ds, h1 with
    | [e], _ => exact ⟨e, rfl⟩
  obtain ⟨g1, g2⟩ := h3 0 k e v rfl rfl rfl
  exact ⟨e, g2, cellOf_rel g1⟩
theorem arg_int {t : Nat} {r : Reach} {b0 : Nat} {v : Value} {d : DataW H} {ps : List MemPlace} {k : IntKind} (hu : P.underlying t = some (.int k)) (hval : Value.okWide P W r b0 t v) (h : DataW.Trod enc P W 0 (fun _ => true) true t v d ps) :
    ∃ x : Int, (Lit.int k x).wf = true ∧ VRel (sit0 W) (.int k (.t fun _ => x)) v := by
  obtain ⟨x, rfl, rfl, rfl, wx⟩ := ChangeShapes.open_int hu hval h
  exact ⟨x, wx, by simp [VRel, IX.v]⟩
end
end Go.Sy
end

section
/- The package's table of codes, as the row's words lay it: what the world holds. -/
namespace Go.Proofs.YtlgmbpnlakjefaaDoor
open Go.Sy
open Go.ChangeShapes Go.WideShapes Go.ChangeAt Go.RowKit
set_option maxRecDepth 100000
set_option linter.unusedVariables false
theorem Tryd.codesAt : Tryd.prog.globalNamed "whorl/sketch.codes" = some 0 := by kernel_rfl
theorem Tryd.codesType : (Tryd.prog.globals[0]?).map (·.type) = some 85 := by kernel_rfl
theorem Tryd.cells85 : Tryd.prog.cellsOf 85 = 12 := by kernel_rfl
theorem Tryd.cells63 : Tryd.prog.cellsOf 63 = 3 := by kernel_rfl
theorem Tryd.cells3 : Tryd.prog.cellsOf 3 = 1 := by kernel_rfl
theorem Tryd.cells24 : Tryd.prog.cellsOf 24 = 1 := by kernel_rfl
theorem int_of_trod {H : Type} {enc : TypeId × Value → H} {P : Program} {w : World} {base : Nat} {sp : Nat → Bool} {held : Bool} {fuel : Nat} {t : TypeId} {k : IntKind} {c : Value} {y : DataW H × List MemPlace}
    (ht : P.underlying t = some (.int k)) (h : DataW.trod enc P w base sp held fuel t [c] = some y) : ∃ n, c = .int k n ∧ y = (.lit (.int k n), []) := by
  cases fuel with
  | zero => simp [DataW.trod] at h
  | succ fuel =>
    cases c <;> simp [DataW.trod, ht] at h
    rename_i k' n
    obtain ⟨⟨rfl, _⟩, rfl⟩ := h
    exact ⟨n, rfl, rfl⟩
def codeLine : Array Value := #[.int .u16 0, .int .i64 0, .int .i64 0, .int .u16 19, .int .i64 11, .int .i64 1, .int .u16 465, .int .i64 7, .int .i64 2, .int .u16 1335, .int .i64 5, .int .i64 3]
theorem code_of_trod {w : World} {fuel : Nat} {a b c : Value} {y : DataW Unit × List MemPlace} (h : DataW.trod (fun _ => ()) Tryd.prog w 0 (fun _ => true) false fuel 63 [a, b, c] = some y) :
    ∃ x p q, a = .int .u16 x ∧ b = .int .i64 p ∧ c = .int .i64 q ∧ y = (.agg [.lit (.int .u16 x), .lit (.int .i64 p), .lit (.int .i64 q)], []) := by
  cases fuel with
  | zero => simp [DataW.trod] at h
  | succ fuel =>
    simp [DataW.trod, Tryd.underlying63, Tryd.cells63, Tryd.cells3, Tryd.cells24, Option.bind_eq_some_iff] at h
    obtain ⟨p0, q0, h0, z, ⟨p1, q1, h1, z1, ⟨p2, q2, h2, rfl⟩, rfl⟩, rfl⟩ := h
    obtain ⟨x, rfl, e0⟩ := int_of_trod Tryd.underlying24 h0
    obtain ⟨p, rfl, e1⟩ := int_of_trod Tryd.underlying3 h1
    obtain ⟨q, rfl, e2⟩ := int_of_trod Tryd.underlying3 h2
    cases e0; cases e1; cases e2
    exact ⟨x, p, q, rfl, rfl, rfl, rfl⟩
theorem codes_cells {W : World} (h : laidMet Tryd.prog [("whorl/sketch.codes", Rows.laid_whorl_sketch_codes)] W) : W.var? Tryd.prog "whorl/sketch.codes" = some codeLine := by
  obtain ⟨ps, ⟨g, t, cs, fuel, p, q, hg, ht, hvar, hd, _, _⟩, _⟩ := h
  obtain rfl := Option.some.inj (Tryd.codesAt.symm.trans hg)
  obtain rfl := Option.some.inj (Tryd.codesType.symm.trans ht)
  rw [hvar]
  congr 1
  obtain ⟨l⟩ := cs
  cases fuel with
  | zero => simp [DataW.trod] at hd
  | succ fuel =>
    simp only [DataW.trod, Tryd.underlying85, Tryd.cells85, Tryd.cells63] at hd
    split at hd
    · rename_i hl
      obtain ⟨c0, c1, c2, c3, c4, c5, c6, c7, c8, c9, c10, c11, rfl⟩ : ∃ c0 c1 c2 c3 c4 c5 c6 c7 c8 c9 c10 c11, l = [c0, c1, c2, c3, c4, c5, c6, c7, c8, c9, c10, c11] := by
        match l, hl with
        | [c0, c1, c2, c3, c4, c5, c6, c7, c8, c9, c10, c11], _ => exact ⟨_, _, _, _, _, _, _, _, _, _, _, _, rfl⟩
      have e : List.range 4 = [0, 1, 2, 3] := rfl
      rw [e] at hd
      simp only [Option.map_eq_some_iff, List.mapM_cons, List.mapM_nil, Option.bind_eq_bind, Option.bind_eq_some_iff, Option.pure_def, Option.some.injEq] at hd
      obtain ⟨xs, ⟨y0, h0, _, ⟨y1, h1, _, ⟨y2, h2, _, ⟨y3, h3, _, rfl, rfl⟩, rfl⟩, rfl⟩, rfl⟩, hx⟩ := hd
      obtain ⟨n0, n1, n2, rfl, rfl, rfl, rfl⟩ := code_of_trod (a := c0) (b := c1) (c := c2) h0
      obtain ⟨n3, n4, n5, rfl, rfl, rfl, rfl⟩ := code_of_trod (a := c3) (b := c4) (c := c5) h1
      obtain ⟨n6, n7, n8, rfl, rfl, rfl, rfl⟩ := code_of_trod (a := c6) (b := c7) (c := c8) h2
      obtain ⟨n9, n10, n11, rfl, rfl, rfl, rfl⟩ := code_of_trod (a := c9) (b := c10) (c := c11) h3
      simp [Rows.laid_whorl_sketch_codes] at hx
      obtain ⟨⟨⟨rfl, rfl, rfl⟩, ⟨rfl, rfl, rfl⟩, ⟨rfl, rfl, rfl⟩, ⟨rfl, rfl, rfl⟩⟩, _⟩ := hx
      rfl
    · cases hd
theorem codes_fix {W : World} (h : laidMet Tryd.prog [("whorl/sketch.codes", Rows.laid_whorl_sketch_codes)] W) : Fix (sit0 W) := by
  have hc := codes_cells h
  intro g sig rows hg
  unfold gtab at hg
  split at hg
  · rename_i e
    obtain rfl := Nat.eq_of_beq_eq_true e
    simp only [Option.some.injEq, Prod.mk.injEq] at hg
    obtain ⟨rfl, rfl⟩ := hg
    have at0 : ∀ n, W.cell? ⟨0, n, none⟩ = codeLine[n]? := fun n => World.var?_cell Tryd.codesAt hc n
    refine ⟨fun h => h, ?_, fun i r hr => ?_, fun i j r k d hr hk hd => ?_⟩
    · show 0 < W.heap.size
      have := at0 0
      apply Nat.pos_of_ne_zero
      intro e0
      have : W.heap[0]? = none := by rw [Array.getElem?_eq_none]; omega
      have h2 := at0 0
      simp [World.cell?, this, codeLine] at h2
    · match i, hr with
      | 0, hr => cases hr; rfl
      | 1, hr => cases hr; rfl
      | 2, hr => cases hr; rfl
      | 3, hr => cases hr; rfl
      | i + 4, hr => cases hr
    · simp only [sit0, at0]
      match i, hr with
      | 0, hr =>
        cases hr
        match j, hk, hd with
        | 0, hk, hd => cases hk; cases hd; exact ⟨_, rfl, .int _ _⟩
        | 1, hk, hd => cases hk; cases hd; exact ⟨_, rfl, .int _ _⟩
        | 2, hk, hd => cases hk; cases hd; exact ⟨_, rfl, .int _ _⟩
        | j + 3, hk, hd => cases hk
      | 1, hr =>
        cases hr
        match j, hk, hd with
        | 0, hk, hd => cases hk; cases hd; exact ⟨_, rfl, .int _ _⟩
        | 1, hk, hd => cases hk; cases hd; exact ⟨_, rfl, .int _ _⟩
        | 2, hk, hd => cases hk; cases hd; exact ⟨_, rfl, .int _ _⟩
        | j + 3, hk, hd => cases hk
      | 2, hr =>
        cases hr
        match j, hk, hd with
        | 0, hk, hd => cases hk; cases hd; exact ⟨_, rfl, .int _ _⟩
        | 1, hk, hd => cases hk; cases hd; exact ⟨_, rfl, .int _ _⟩
        | 2, hk, hd => cases hk; cases hd; exact ⟨_, rfl, .int _ _⟩
        | j + 3, hk, hd => cases hk
      | 3, hr =>
        cases hr
        match j, hk, hd with
        | 0, hk, hd => cases hk; cases hd; exact ⟨_, rfl, .int _ _⟩
        | 1, hk, hd => cases hk; cases hd; exact ⟨_, rfl, .int _ _⟩
        | 2, hk, hd => cases hk; cases hd; exact ⟨_, rfl, .int _ _⟩
        | j + 3, hk, hd => cases hk
      | i + 4, hr => cases hr
  · cases hg
end Go.Proofs.YtlgmbpnlakjefaaDoor
end

section
/- TopKept: the arguments' readings as what its contract takes. -/
namespace Go.Proofs.YtlgmbpnlakjefaaDoor
open Go.Sy
open Go.ChangeShapes Go.WideShapes Go.ChangeAt Go.RowKit
set_option maxRecDepth 100000
set_option linter.unusedVariables false
theorem slice_cells {P : Program} {W : World} {r : Reach} {b0 t e : Nat} {v : Value} (hu : P.underlying t = some (.slice e)) (h : Value.okWide P W r b0 t v) : v.cells.toList = [v] := by
  cases v <;> first | rfl | (exfalso; unfold Value.okWide at h; simp [hu] at h; try (unfold Cell.okWide at h; simp [hu] at h); try (unfold Cell.ok at h; simp [hu] at h))
theorem below_of {T : List Nat} {b : Nat} (h : ∀ x ∈ T, x < b) : Below T b := fun i hi => by
  rw [List.getD_eq_getElem?_getD, List.getElem?_eq_getElem hi]
  exact h _ (List.getElem_mem hi)
theorem nums_of {b : Nat} : ∀ (rows : List (List D)), (∀ r ∈ rows, ∃ n : Nat, r = [.i (ofN n)] ∧ n < b) → ∃ T, rows = nums T ∧ ∀ x ∈ T, x < b
  | [], _ => ⟨[], rfl, fun x hx => by cases hx⟩
  | r :: l, h => by
    obtain ⟨n, rfl, hn⟩ := h r List.mem_cons_self
    obtain ⟨T, rfl, hT⟩ := nums_of l fun r hr => h r (List.mem_cons_of_mem _ hr)
    exact ⟨n :: T, rfl, fun x hx => (List.mem_cons.1 hx).elim (fun e => e ▸ hn) (hT x)⟩
theorem row_one {sig : List Kd} {rows : List (List D)} {k : Kd} (hs : sig = [k]) (h2 : ∀ (i : Nat) (r : List D), nth rows i = some r → r.length = sig.length)
    (h3 : ∀ (i j : Nat) (r : List D) (k : Kd) (d : D), nth rows i = some r → nth sig j = some k → nth r j = some d → DWf k d) {r : List D} (hr : r ∈ rows) : ∃ d, r = [d] ∧ DWf k d := by
  subst hs
  obtain ⟨i, hi⟩ := List.mem_iff_getElem?.1 hr
  have hi' : nth rows i = some r := by rw [nth_eq]; exact hi
  have hl := h2 i r hi'
  match r, hl with
  | [d], _ => exact ⟨d, rfl, h3 i 0 _ k d hi' rfl rfl⟩
theorem dwf_nums {k : IntKind} {b : Nat} (hk : ∀ n : Int, (Lit.int k n).wf = true → 0 ≤ n ∧ n.toNat < b) {e : D} (h : DWf (.sl [.int k]) e) : ∃ T, e = .s (nums T) ∧ Below T b := by
  cases h with
  | sl sig rows h0 h1 h2 h3 =>
    obtain ⟨T, rfl, hT⟩ := nums_of (b := b) rows fun r hr => by
      obtain ⟨d, rfl, hd⟩ := row_one rfl h2 h3 hr
      cases hd with
      | int k n hn =>
        obtain ⟨g1, g2⟩ := hk n hn
        exact ⟨n.toNat, by simp only [ofN]; rw [show ((n.toNat : Nat) : Int) = n by omega], g2⟩
    exact ⟨T, rfl, below_of hT⟩
theorem k_u8 (n : Int) (h : (Lit.int .u8 n).wf = true) : 0 ≤ n ∧ n.toNat < 256 := by
  have := bounds_u8 h; omega
theorem k_u16 (n : Int) (h : (Lit.int .u16 n).wf = true) : 0 ≤ n ∧ n.toNat < 65536 := by
  have := bounds_u16 h; omega
theorem rowsC_of : ∀ (rows : List (List D)), (∀ r ∈ rows, ∃ c, r = [.s (nums c)] ∧ Below c 256) → ∃ C, rows = rowsC C ∧ ∀ c ∈ C, Below c 256
  | [], _ => ⟨[], rfl, fun x hx => by cases hx⟩
  | r :: l, h => by
    obtain ⟨n, rfl, hn⟩ := h r List.mem_cons_self
    obtain ⟨T, rfl, hT⟩ := rowsC_of l fun r hr => h r (List.mem_cons_of_mem _ hr)
    exact ⟨n :: T, rfl, fun x hx => (List.mem_cons.1 hx).elim (fun e => e ▸ hn) (hT x)⟩
theorem dwf_rowsC {e : D} (h : DWf (.sl [.sl [.int .u8]]) e) : ∃ C, e = .s (rowsC C) ∧ ∀ i, i < C.length → Below (C.getD i []) 256 := by
  cases h with
  | sl sig rows h0 h1 h2 h3 =>
    obtain ⟨C, rfl, hC⟩ := rowsC_of rows fun r hr => by
      obtain ⟨d, rfl, hd⟩ := row_one rfl h2 h3 hr
      obtain ⟨c, rfl, hc⟩ := dwf_nums k_u8 hd
      exact ⟨c, rfl, hc⟩
    refine ⟨C, rfl, fun i hi => ?_⟩
    rw [List.getD_eq_getElem?_getD, List.getElem?_eq_getElem hi]
    exact hC _ (List.getElem_mem hi)
theorem mat_ro {s : Sit} {h : Heap} (hh : HRel s h) {sig : List Kd} {l : Unit → List (List D)} {v : Value} (hr : VRel s (.ro sig l) v) :
    ∃ s1, s1.w = s.w ∧ Ev s s1 ∧ s.base <+: s1.base ∧ HRel s1 (h ++ [some ⟨false, .rows sig l⟩]) ∧ VRel s1 (.sl (len h) (.l 0) (.l 0) (len sig) (.t fun _ => (l ()).length) (.t fun _ => (l ()).length) false) v := by
  obtain ⟨s1, av', h', q1, q2, q3, q4, q5, q6, q7, rfl, rfl⟩ := mat_ok (K := fun av' h' => av' = (.sl (len h) (.l 0) (.l 0) (len sig) (.t fun _ => (l ()).length) (.t fun _ => (l ()).length) false) ∧ h' = h ++ [some ⟨false, .rows sig l⟩]) hh (show mat (.ro sig l) h _ from ⟨rfl, rfl⟩) hr
  exact ⟨s1, q1, q2, q3, q4, q5⟩
theorem kept_sit {W : World} (hf : Fix (sit0 W)) {T M : List Nat} {C : List (List Nat)} {v1 v2 v3 : Value} (h1 : VRel (sit0 W) (.ro [.int .u16] fun _ => nums T) v1) (h2 : VRel (sit0 W) (.ro [.int .u16] fun _ => nums M) v2)
    (h3 : VRel (sit0 W) (.ro [.sl [.int .u8]] fun _ => rowsC C) v3) :
    ∃ s, s.w = W ∧ Ev (sit0 W) s ∧ (sit0 W).base <+: s.base ∧ HRel s [some ⟨false, .rows [.int .u16] fun _ => nums T⟩, some ⟨false, .rows [.int .u16] fun _ => nums M⟩, some ⟨false, .rows [.sl [.int .u8]] fun _ => rowsC C⟩] ∧
      VRel s (.sl 0 (.l 0) (.l 0) 1 (.t fun _ => T.length) (.t fun _ => T.length) false) v1 ∧ VRel s (.sl 1 (.l 0) (.l 0) 1 (.t fun _ => M.length) (.t fun _ => M.length) false) v2 ∧ VRel s (.sl 2 (.l 0) (.l 0) 1 (.t fun _ => C.length) (.t fun _ => C.length) false) v3 := by
  obtain ⟨s1, a1, a2, a3, a4, a5⟩ := mat_ro (HRel.zero W hf) h1
  obtain ⟨s2, b1, b2, b3, b4, b5⟩ := mat_ro a4 (VRel.mono a2 a3 _ _ h2)
  obtain ⟨s3, c1, c2, c3, c4, c5⟩ := mat_ro b4 (VRel.mono b2 b3 _ _ (VRel.mono a2 a3 _ _ h3))
  simp only [nums_length] at a5 b5
  simp only [rowsC_length] at c5
  exact ⟨s3, by rw [c1, b1, a1]; rfl, (a2.trans b2).trans c2, (a3.trans b3).trans c3, c4, VRel.mono c2 c3 _ _ (VRel.mono b2 b3 _ _ a5), VRel.mono c2 c3 _ _ b5, c5⟩
theorem Sound.lawAt {P : Program} {f : FuncId} {C : Con} (hS : Sound P f C) {W : World} {s : Sit} {h : Heap} {args : List AV} {vals : List Value} (hw : s.w = W) (hE : Ev (sit0 W) s) (hh : HRel s h) (hv : VRels s args vals) (hc : C args h isTrue) :
    Calls P f vals.toArray W fun e W' => e = .returned (.bool true) ∧ Old W W' := by
  subst hw
  refine Calls.mono (hS s h args vals isTrue hh hv hc) ?_
  rintro e W' ⟨s', v, av, h', rfl, rfl, hE', _, _, hr, hk⟩
  exact ⟨by rw [hk s' v hr], (hE.trans hE').old⟩
end Go.Proofs.YtlgmbpnlakjefaaDoor
end

section
/- TopKept: the row, and its card, out of the contract of KpL. Conditions: none beyond the row's own. -/
namespace Go.Proofs.YtlgmbpnlakjefaaDoor
open Go.Sy
open Go.ChangeShapes Go.WideShapes Go.ChangeAt Go.RowKit
set_option maxRecDepth 100000
set_option linter.unusedVariables false
theorem own3 : ownKnob Tryd.prog.godebug = none := by kernel_rfl
theorem laidOut3 : laidOutB Tryd.prog = true := by kernel_rfl
theorem kds22 : kdsT Tryd.prog 9 22 = some [.sl [.int .u16]] := by kernel_rfl
theorem kds23 : kdsT Tryd.prog 9 23 = some [.sl [.sl [.int .u8]]] := by kernel_rfl
theorem kds26 : kdsT Tryd.prog 9 26 = some [.int .i64, .int .i64, .int .u16] := by kernel_rfl
noncomputable def laidWorld (os : Os) : World :=
  { World.holding Tryd.prog os ⟨#[], #[], []⟩ with heap := (World.holding Tryd.prog os ⟨#[], #[], []⟩).heap.modify 0 fun
      | .cells _ t frozen => .cells codeLine t frozen
      | o => o }
def firstArgs : Array Value := #[.int .u8 0, .slice none 0 0, .slice none 0 0, .slice none 0 0, .agg #[.int .i64 0, .int .i64 0, .int .u16 0]]
theorem laidWorld_row (os : Os) : ((laidWorld os).forCall (fun _ _ => 0) ⟨#[], firstArgs, []⟩).memory.heap[0]? = some (.cells codeLine 85 (0, 0)) := by kernel_rfl
theorem laidWorld_met (os : Os) : laidMet Tryd.prog [("whorl/sketch.codes", Rows.laid_whorl_sketch_codes)] ((laidWorld os).forCall (fun _ _ => 0) ⟨#[], firstArgs, []⟩).memory :=
  ⟨_, ⟨0, 85, codeLine, 8, [], [], by kernel_rfl, by kernel_rfl, by kernel_rfl, by kernel_rfl, rfl, rfl⟩, by decide, fun b off h => by
    have h' : MemPlace.cell b off ∈ MemPlace.row ⟨0, 0, none⟩ 12 ++ [] ++ [] := h
    have hb : b = 0 := by
      simp [MemPlace.row] at h'
      omega
    subst hb
    refine ⟨⟨_, _, laidWorld_row os⟩, fun u v hc => ?_⟩
    simp only [World.cell?, laidWorld_row os] at hc
    exfalso
    have hc : codeLine[off]? = some (.iface u v) := hc
    match off, hc with
    | 0, hc => cases hc
    | 1, hc => cases hc
    | 2, hc => cases hc
    | 3, hc => cases hc
    | 4, hc => cases hc
    | 5, hc => cases hc
    | 6, hc => cases hc
    | 7, hc => cases hc
    | 8, hc => cases hc
    | 9, hc => cases hc
    | 10, hc => cases hc
    | 11, hc => cases hc
    | off + 12, hc => simp [codeLine] at hc⟩
theorem veil_args {ds : List D} (h : DsOk [.int .i64, .int .i64, .int .u16] ds) : ∃ k : RawK, 0 ≤ k.pad ∧ k.pad ≤ 65535 ∧ cellsOf (fun _ => ds) [.int .i64, .int .i64, .int .u16] 0 = [.int .i64 (.t fun _ => k.n), .int .i64 (.t fun _ => k.perm), .int .u16 (.t fun _ => k.pad)] := by
  obtain ⟨hl, hk⟩ := h
  match ds, hl with
  | [a, b, c], _ =>
    have hc := hk 2 _ c rfl rfl
    cases hc with
    | int k n hn =>
      obtain ⟨g1, g2⟩ := k_u16 n hn
      exact ⟨⟨a.int, b.int, n⟩, g1, by show n ≤ 65535; omega, rfl⟩
theorem lifted3 (os : Os) (started : os.Started) (H : Type) (enc : TypeId × Value → H) :
    ReturnsInHanded {} Tryd.checked os 3 .any (fun w args => (Rows.topKeptSpec.pre enc Tryd.prog Tryd.f3 Rows.topKeptRow.domain false w args ∧ laidMet Tryd.prog [("whorl/sketch.codes", Rows.laid_whorl_sketch_codes)] w) ∧ sizedMet enc Tryd.prog Tryd.f3 (OpenSpec.ofChange Rows.topKeptSpec) false w args)
      (Rows.topKeptSpec.post enc Tryd.prog Tryd.f3 false true false false) := by
  refine returnsInHanded_of_change_and (C := Tryd.checked) (X := fun w _ => laidMet Tryd.prog [("whorl/sketch.codes", Rows.laid_whorl_sketch_codes)] w) (fun _ _ _ hh h => h.of_heap hh) own3 started (by kernel_rfl) Tryd.func3
    (ChangeSpec.witness_at (enc := enc) (C := Tryd.checked) (os := os) (X := fun w _ => laidMet Tryd.prog [("whorl/sketch.codes", Rows.laid_whorl_sketch_codes)] w) false (laidWorld os) firstArgs 8 rfl (by kernel_rfl) (by kernel_rfl) (by kernel_rfl) (by kernel_rfl) (by kernel_rfl) (laidWorld_met os)) ?_
  intro W base args ds gs before hval0 hW _ _ hL _
  have hval : ∀ (j : Nat) t v, Tryd.f3.params[j]? = some t → args[j]? = some v → Value.okWide Tryd.prog W .any base t v := hval0
  have hW' := hW
  obtain ⟨p, q, hA0, hV, rfl, hfz, hnd⟩ := hW
  have hA : DataW.TrodAll enc Tryd.prog W 0 (fun _ => true) true Tryd.f3.params.toList args.toList ds p := hA0
  have hlt := hW'.lt
  have hA2 := hA
  rw [Tryd.params3] at hA hval
  obtain ⟨v0, vs0, d0, ds0, p0, q0, hargs, rfl, rfl, h0, r0⟩ := trodAll_cons hA
  obtain ⟨v1, vs1, d1, ds1, p1, q1, rfl, rfl, rfl, h1, r1⟩ := trodAll_cons r0
  obtain ⟨v2, vs2, d2, ds2, p2, q2, rfl, rfl, rfl, h2, r2⟩ := trodAll_cons r1
  obtain ⟨v3, vs3, d3, ds3, p3, q3, rfl, rfl, rfl, h3, r3⟩ := trodAll_cons r2
  obtain ⟨v4, vs4, d4, ds4, p4, q4, rfl, rfl, rfl, h4, r4⟩ := trodAll_cons r3
  obtain ⟨rfl, rfl, rfl⟩ := trodAll_nil r4
  obtain rfl : args = #[v0, v1, v2, v3, v4] := by cases args; simp_all
  obtain ⟨rfl, rfl⟩ := trodVars_none hV
  have hf := codes_fix hL
  obtain ⟨a, wa, ra⟩ := arg_int Tryd.underlying5 (hval 0 5 v0 rfl rfl) h0
  obtain ⟨e1, w1, r1'⟩ := arg_one kds22 (slice_cells Tryd.underlying22 (hval 1 22 v1 rfl rfl)) h1
  obtain ⟨e2, w2, r2'⟩ := arg_one kds22 (slice_cells Tryd.underlying22 (hval 2 22 v2 rfl rfl)) h2
  obtain ⟨e3, w3, r3'⟩ := arg_one kds23 (slice_cells Tryd.underlying23 (hval 3 23 v3 rfl rfl)) h3
  obtain ⟨dd, wd, rd⟩ := arg_agg kds26 (by kernel_rfl) (hval 4 26 v4 rfl rfl) h4
  obtain ⟨T, rfl, bT⟩ := dwf_nums k_u16 w1
  obtain ⟨M, rfl, bM⟩ := dwf_nums k_u16 w2
  obtain ⟨C, rfl, bC⟩ := dwf_rowsC w3
  obtain ⟨k, k0, k1, ek⟩ := veil_args wd
  rw [ek] at rd
  obtain ⟨g0, g1⟩ := k_u8 a wa
  obtain ⟨n, rfl⟩ : ∃ n : Nat, a = ofN n := ⟨a.toNat, by simp only [ofN]; omega⟩
  have hn : n < 256 := by simp only [ofN] at g1; omega
  obtain ⟨s, hs, hE, hp, hh, y1, y2, y3⟩ := kept_sit hf r1' r2' r3'
  have hv : VRels s (KeptX.args ⟨n, T, M, C, k⟩) [v0, v1, v2, v3, v4] := by
    simp only [KeptX.args, VRels]
    exact ⟨_, _, rfl, VRel.mono hE hp _ _ ra, _, _, rfl, y1, _, _, rfl, y2, _, _, rfl, y3, _, _, rfl, VRel.mono hE hp _ _ rd, rfl⟩
  have hc : cKept (KeptX.args ⟨n, T, M, C, k⟩) (KeptX.heap ⟨n, T, M, C, k⟩) isTrue :=
    ⟨⟨n, T, M, C, k⟩, ⟨hn, bT, bM, bC, k0, k1⟩, fun _ _ h => h, ⟨⟨sB_refl _, sS_refl _, .mk rfl⟩, ⟨sB_refl _, sS_refl _, .mk rfl⟩, ⟨sB_refl _, sS_refl _, .mk rfl⟩, trivial⟩, isTrue_t rfl⟩
  clear hA0 hval0
  refine (Sound.lawAt s3 hs hE hh hv hc).mono fun e W' ⟨he, hold⟩ => ?_
  subst he
  refine ⟨_, rfl, _, _, _, [], _, [], hW', trodAll_mk1 (shut_bool Tryd.underlying4 _), hold.trodAll laidOut3 (by kernel_rfl) hA2 (fun x hx => hlt x (by simpa using hx)), rfl, hold.frame _, fun h => by cases h⟩
theorem over3 : Rows.TopKeptSaid :=
  OpenClaim.holds_of_wide 3 Tryd.f3 rfl rfl rfl rfl rfl rfl rfl ⟨rfl, rfl, rfl, rfl, rfl⟩ rfl rfl rfl rfl rfl (by kernel_rfl) Tryd.func3 (by kernel_rfl)
    (of_decide_eq_true (by kernel_rfl)) (by unfold Func.isWrapper; first | (rw [if_pos (by decide +kernel)]; kernel_rfl) | (rw [if_neg (by decide +kernel)]; exact ⟨rfl, rfl⟩))
    (fun os started H enc _ => lifted3 os started H enc)
/-- The statement TopKept. -/
theorem topKept_card : Rows.TopKeptCardSaid :=
  Claim7.holds_tied_plain_at .later [] [.data] true (true, "1ab19eef95570a36a8d910fea2f5d3a38bad8c15c5db98d5c9f296ca44b70a19") false
    over3 (fun _ h => by cases h) (by kernel_rfl) (fun _ h => by cases h) topKept_row_tie rfl ⟨rfl, rfl⟩ (by kernel_rfl) rfl
    (fun f fn hf hfn => by
      obtain rfl : f = 3 := Option.some.inj ((show Tryd.prog.funcNamed "whorl/whorltop.TopKept" = some 3 by kernel_rfl).symm.trans hf) |>.symm
      obtain rfl : fn = Tryd.f3 := (Option.some.inj (Tryd.func3.symm.trans hfn)).symm
      exact ⟨by kernel_rfl, fun j t ht => by
        rw [Tryd.params3] at ht
        have h3 : t = 5 ∨ t = 22 ∨ t = 23 ∨ t = 26 := by
          match j, ht with
          | 0, ht => exact .inl (Option.some.inj ht).symm
          | 1, ht => exact .inr (.inl (Option.some.inj ht).symm)
          | 2, ht => exact .inr (.inl (Option.some.inj ht).symm)
          | 3, ht => exact .inr (.inr (.inl (Option.some.inj ht).symm))
          | 4, ht => exact .inr (.inr (.inr (Option.some.inj ht).symm))
          | j + 5, ht => simp at ht
        rcases h3 with rfl | rfl | rfl | rfl
        · exact (show Tryd.prog.wantsStandIn 5 = false by kernel_rfl)
        · exact (show Tryd.prog.wantsStandIn 22 = false by kernel_rfl)
        · exact (show Tryd.prog.wantsStandIn 23 = false by kernel_rfl)
        · exact (show Tryd.prog.wantsStandIn 26 = false by kernel_rfl)⟩)
    (by kernel_rfl)
#print axioms topKept_card
end Go.Proofs.YtlgmbpnlakjefaaDoor
end
