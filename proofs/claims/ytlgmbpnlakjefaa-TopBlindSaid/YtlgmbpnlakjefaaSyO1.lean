/- Arguments opened: what a value that reads as data stands for, whatever its type (numbers, truths, slices, structs, arrays, to any depth); and what a call that touches nothing old leaves. -/
import Derived.Test.YtlgmbpnlakjefaaSyZ
import Derived.Carry
import Derived.OpenShut
import Derived.DataReads
namespace Go.Sy
set_option linter.unusedSimpArgs false
set_option linter.unusedVariables false

/-- a datum is well formed -/
inductive DWf : Kd → D → Prop
  | int (k : IntKind) (n : Int) : (Lit.int k n).wf = true → DWf (.int k) (.i n)
  | bool (b : Bool) : DWf .bool (.b b)
  | sl (sig : List Kd) (rows : List (List D)) : 0 < sig.length → rows.length ≤ maxLen → (∀ (i : Nat) (r : List D), nth rows i = some r → r.length = sig.length) →
      (∀ (i j : Nat) (r : List D) (k : Kd) (d : D), nth rows i = some r → nth sig j = some k → nth r j = some d → DWf k d) → DWf (.sl sig) (.s rows)

def catRep (sig : List Kd) : Nat → List Kd
  | 0 => []
  | n + 1 => sig ++ catRep sig n
theorem catRep_length (sig : List Kd) : ∀ n, (catRep sig n).length = n * sig.length
  | 0 => by simp [catRep]
  | n + 1 => by simp [catRep, catRep_length sig n, Nat.add_mul]; omega
mutual
/-- the kinds of a type's cells -/
def kdsT (P : Program) : Nat → Nat → Option (List Kd)
  | 0, _ => none
  | n + 1, t => match P.underlying t with
    | some .bool => some [.bool]
    | some (.int k) => some [.int k]
    | some (.slice e) => match kdsT P n e with
      | some sig => if 0 < sig.length ∧ P.cellsOf e = sig.length then some [.sl sig] else none
      | none => none
    | some (.array m e) => match kdsT P n e with
      | some sig => if P.cellsOf e = sig.length ∧ P.cellsOf t = m * sig.length then some (catRep sig m) else none
      | none => none
    | some (.struct fs) => match kdsF P n 0 fs.toList with
      | some sig => if P.cellsOf t = sig.length then some sig else none
      | none => none
    | _ => none
def kdsF (P : Program) : Nat → Nat → List Field → Option (List Kd)
  | _, _, [] => some []
  | 0, _, _ :: _ => none
  | n + 1, off, f :: fs => match kdsT P n f.type with
    | some sig => if f.offset = off ∧ P.cellsOf f.type = sig.length then match kdsF P n (off + sig.length) fs with
        | some r => some (sig ++ r)
        | none => none
      else none
    | none => none
end
/-- cells that stand for data of some kinds -/
def Opened (s : Sit) (sig : List Kd) (cs : List Value) : Prop := ∃ ds : List D, ds.length = sig.length ∧ cs.length = sig.length ∧
  ∀ (j : Nat) (k : Kd) (d : D) (v : Value), nth sig j = some k → nth ds j = some d → cs[j]? = some v → DRel s k d v ∧ DWf k d
theorem Opened.nil {s : Sit} : Opened s [] [] := ⟨[], rfl, rfl, fun j k d v h => by cases h⟩
theorem Opened.append {s : Sit} {a b : List Kd} {cs es : List Value} (h : Opened s a cs) (h' : Opened s b es) : Opened s (a ++ b) (cs ++ es) := by
  obtain ⟨d1, l1, m1, h1⟩ := h
  obtain ⟨d2, l2, m2, h2⟩ := h'
  refine ⟨d1 ++ d2, by simp [l1, l2], by simp [m1, m2], fun j k d v hk hd hv => ?_⟩
  rw [nth_append] at hk hd
  by_cases hj : j < a.length
  · rw [if_pos hj] at hk
    rw [if_pos (by omega)] at hd
    rw [List.getElem?_append_left (by omega)] at hv
    exact h1 j k d v hk hd hv
  · rw [if_neg hj] at hk
    rw [if_neg (by omega)] at hd
    rw [List.getElem?_append_right (by omega)] at hv
    rw [l1] at hd
    rw [m1] at hv
    exact h2 _ k d v hk hd hv
theorem Opened.one {s : Sit} {k : Kd} {d : D} {v : Value} (h : DRel s k d v) (h' : DWf k d) : Opened s [k] [v] :=
  ⟨[d], rfl, rfl, fun j k' d' v' hk hd hv => by
    have hj := nth_some_lt hk
    have : j = 0 := by simpa using hj
    subst this
    simp [nth] at hk hd hv
    subst hk; subst hd; subst hv
    exact ⟨h, h'⟩⟩
theorem Opened.catRep {s : Sit} {sig : List Kd} {cs : List Value} : ∀ (n : Nat), cs.length = n * sig.length → (∀ i, i < n → Opened s sig ((cs.drop (i * sig.length)).take sig.length)) → Opened s (catRep sig n) cs
  | 0, hl, _ => by
    have : cs = [] := List.length_eq_zero_iff.1 (by simpa using hl)
    subst this; exact Opened.nil
  | n + 1, hl, h => by
    have h0 := h 0 (by omega)
    simp only [Nat.zero_mul, List.drop_zero] at h0
    have hr : Opened s (Go.Sy.catRep sig n) (cs.drop sig.length) := Opened.catRep (cs := cs.drop sig.length) n (by rw [List.length_drop, hl, Nat.add_mul]; omega) fun i hi => by
      have := h (i + 1) (by omega)
      rw [List.drop_drop]
      rwa [show (i + 1) * sig.length = sig.length + i * sig.length by rw [Nat.add_mul]; omega] at this
    have e : cs = cs.take sig.length ++ cs.drop sig.length := (List.take_append_drop _ _).symm
    rw [e, Go.Sy.catRep]
    exact h0.append hr
theorem addNone (b o i : Nat) : Addr.add ⟨b, o, none⟩ i = ⟨b, o + i, none⟩ := by simp [Addr.add]
section
variable {H : Type} {enc : TypeId × Value → H} {P : Program} {s : Sit}
theorem underOne {cs : List Value} {v : Value} (h : cs = [v]) : cs[0]? = some v := by subst h; rfl
theorem trod_bool_inv {fuel : Nat} {base : Nat} {spare : Nat → Bool} {held : Bool} {t : Nat} {cs : List Value} {x : DataW H × List MemPlace} (hu : P.underlying t = some .bool) (h : DataW.trod enc P s.w base spare held fuel t cs = some x) : ∃ b, cs = [.bool b] := by
  cases fuel with
  | zero => simp [DataW.trod] at h
  | succ m =>
    unfold DataW.trod at h
    rw [hu] at h
    split at h <;> simp_all
theorem trod_int_inv {fuel : Nat} {base : Nat} {spare : Nat → Bool} {held : Bool} {t : Nat} {k : IntKind} {cs : List Value} {x : DataW H × List MemPlace} (hu : P.underlying t = some (.int k)) (h : DataW.trod enc P s.w base spare held fuel t cs = some x) : ∃ n, cs = [.int k n] ∧ (Lit.int k n).wf = true := by
  cases fuel with
  | zero => simp [DataW.trod] at h
  | succ m =>
    unfold DataW.trod at h
    rw [hu] at h
    split at h <;> simp_all
theorem trod_slice_inv {fuel : Nat} {base : Nat} {spare : Nat → Bool} {held : Bool} {t e : Nat} {cs : List Value} {x : DataW H × List MemPlace} (hu : P.underlying t = some (.slice e)) (h : DataW.trod enc P s.w base spare held fuel t cs = some x) :
    cs = [.slice none 0 0] ∨ ∃ a len cap m, cs = [.slice (some a) len cap] ∧ len ≤ cap ∧ cap ≤ maxLen ∧
      ∀ i, i < len → ∃ es y, s.w.cells? base (a.add (i * P.cellsOf e)) (P.cellsOf e) = some es ∧ DataW.trod enc P s.w base spare held m e es = some y := by
  cases fuel with
  | zero => simp [DataW.trod] at h
  | succ m =>
    unfold DataW.trod at h
    rw [hu] at h
    split at h <;> try (simp_all; done)
    right
    rename_i a len cap hh
    simp only [Option.some.injEq, TypeDesc.slice.injEq] at hh
    obtain rfl := hh
    simp only at h
    split at h
    · rename_i hc
      refine ⟨a, len, cap, m, rfl, hc.2.1, hc.2.2, fun i hi => ?_⟩
      cases hm : (List.range len).mapM fun i => (s.w.cells? base (a.add (i * P.cellsOf e)) (P.cellsOf e)).bind (DataW.trod enc P s.w base spare held m e) with
      | none => rw [hm] at h; simp at h
      | some elems =>
        have h1 := mapM_some_get hm i i (by simp [hi])
        have hl := mapM_some_length hm
        have : ∃ y, elems[i]? = some y := ⟨elems[i]'(by rw [hl]; simpa using hi), by simp [hl, hi]⟩
        obtain ⟨y, hy⟩ := this
        rw [hy] at h1
        obtain ⟨es, h2, h3⟩ := Option.bind_eq_some_iff.1 h1
        exact ⟨es, y, h2, h3⟩
    · simp at h
theorem trod_struct_inv {fuel : Nat} {base : Nat} {spare : Nat → Bool} {held : Bool} {t : Nat} {fs : Array Field} {cs : List Value} {x : DataW H × List MemPlace} (hu : P.underlying t = some (.struct fs)) (h : DataW.trod enc P s.w base spare held fuel t cs = some x) :
    cs.length = P.cellsOf t ∧ ∃ m, ∀ f ∈ fs.toList, ∃ y, DataW.trod enc P s.w base spare held m f.type ((cs.drop f.offset).take (P.cellsOf f.type)) = some y := by
  cases fuel with
  | zero => simp [DataW.trod] at h
  | succ m =>
    unfold DataW.trod at h
    rw [hu] at h
    simp only at h
    split at h
    · rename_i hc
      refine ⟨hc, m, fun f hf => ?_⟩
      cases hm : fs.toList.mapM fun f => DataW.trod enc P s.w base spare held m f.type ((cs.drop f.offset).take (P.cellsOf f.type)) with
      | none => rw [hm] at h; simp at h
      | some elems =>
        obtain ⟨i, hi⟩ := List.getElem?_of_mem hf
        have h1 := mapM_some_get hm i f hi
        have hl := mapM_some_length hm
        have hil := (List.getElem?_eq_some_iff.1 hi).1
        exact ⟨elems[i]'(by omega), by rw [h1]; simp [hl]⟩
    · simp at h
theorem take_take_drop {α : Type} (l : List α) (a b : Nat) : (l.drop a).drop b = l.drop (a + b) := List.drop_drop ..
/-- what reads as data stands for data -/
theorem opened (ho : ∀ b, ¬ s.own b) (hh : ∀ b, ¬ s.hid b) {spare : Nat → Bool} {held : Bool} : ∀ (n : Nat),
    (∀ (fuel t : Nat) (cs : List Value) (x : DataW H × List MemPlace) (sig : List Kd), kdsT P n t = some sig → DataW.trod enc P s.w 0 spare held fuel t cs = some x → Opened s sig cs) ∧
    (∀ (fuel off : Nat) (fs : List Field) (cs : List Value) (sig : List Kd), kdsF P n off fs = some sig → cs.length = off + sig.length → (∀ f ∈ fs, ∃ y, DataW.trod enc P s.w 0 spare held fuel f.type ((cs.drop f.offset).take (P.cellsOf f.type)) = some y) → Opened s sig (cs.drop off))
  | 0 => by
    refine ⟨fun fuel t cs x sig h => by simp [kdsT] at h, fun fuel off fs cs sig h hl _ => ?_⟩
    cases fs with
    | nil =>
      simp [kdsF] at h
      subst h
      rw [List.drop_of_length_le (by simp at hl; omega)]
      exact Opened.nil
    | cons f fs => simp [kdsF] at h
  | n + 1 => by
    obtain ⟨ihT, ihF⟩ := opened ho hh (spare := spare) (held := held) n
    refine ⟨fun fuel t cs x sig h ht => ?_, fun fuel off fs cs sig h hl hf => ?_⟩
    · unfold kdsT at h
      split at h
      · rename_i hu
        simp at h; subst h
        obtain ⟨b, rfl⟩ := trod_bool_inv hu ht
        exact Opened.one (.bool b) (.bool b)
      · rename_i k hu
        simp at h; subst h
        obtain ⟨m, rfl, hw⟩ := trod_int_inv hu ht
        exact Opened.one (.int k m) (.int k m hw)
      · rename_i e hu
        split at h
        · rename_i sg hs
          split at h
          · rename_i hc
            simp at h; subst h
            rcases trod_slice_inv hu ht with rfl | ⟨a, ln, cap, m, rfl, h1, h2, h3⟩
            · exact Opened.one (.nil sg none 0) (.sl sg [] hc.1 (by simp) (fun i r h => by cases h) fun i j r k d h => by cases h)
            · by_cases hz : ln = 0
              · subst hz
                exact Opened.one (.nil sg (some a) cap) (.sl sg [] hc.1 (by simp) (fun i r h => by cases h) fun i j r k d h => by cases h)
              · have hrow : ∀ i, i < ln → ∃ es, s.w.cells? 0 (a.add (i * sg.length)) sg.length = some es ∧ Opened s sg es := fun i hi => by
                  obtain ⟨es, y, g1, g2⟩ := h3 i hi
                  rw [hc.2] at g1
                  exact ⟨es, g1, ihT m e es y sg hs g2⟩
                have hcell : ∀ i, i < ln → ∃ es ds, s.w.cells? 0 (a.add (i * sg.length)) sg.length = some es ∧ ds.length = sg.length ∧ es.length = sg.length ∧
                    ∀ (j : Nat) (k : Kd) (d : D) (v : Value), nth sg j = some k → nth ds j = some d → es[j]? = some v → DRel s k d v ∧ DWf k d := fun i hi => by
                  obtain ⟨es, g1, ds, g2, g3, g4⟩ := hrow i hi
                  exact ⟨es, ds, g1, g2, g3, g4⟩
                -- the rows, one beside the other
                have hch : ∃ (E : Nat → List Value) (R : Nat → List D), ∀ i, i < ln → s.w.cells? 0 (a.add (i * sg.length)) sg.length = some (E i) ∧ (R i).length = sg.length ∧ (E i).length = sg.length ∧
                    ∀ (j : Nat) (k : Kd) (d : D) (v : Value), nth sg j = some k → nth (R i) j = some d → (E i)[j]? = some v → DRel s k d v ∧ DWf k d := by
                  refine ⟨fun i => if h : i < ln then Classical.choose (hcell i h) else [], fun i => if h : i < ln then Classical.choose (Classical.choose_spec (hcell i h)) else [], fun i hi => ?_⟩
                  simp only [dif_pos hi]
                  exact Classical.choose_spec (Classical.choose_spec (hcell i hi))
                obtain ⟨E, R, hER⟩ := hch
                have hsp : a.spot = none := by
                  obtain ⟨g1, g2, g3, g4⟩ := hER 0 (by omega)
                  have := (World.cells?_some g1).2.2 0 (by omega)
                  have h0 : ∃ v, (E 0)[0]? = some v := ⟨_, List.getElem?_eq_getElem (by omega)⟩
                  obtain ⟨v, hv⟩ := h0
                  rw [hv] at this
                  simpa [Addr.add] using World.cell?_spot this
                have hlt : a.block < s.w.heap.size := by
                  obtain ⟨g1, _⟩ := hER 0 (by omega)
                  simpa [Addr.add] using World.cells?_block g1 hc.1
                obtain ⟨blk, off, spot⟩ := a
                simp only at hsp hlt
                subst hsp
                have hget : ∀ i j, i < ln → j < sg.length → s.w.cell? ⟨blk, off + (i * sg.length + j), none⟩ = (E i)[j]? ∧ ∃ v, (E i)[j]? = some v := fun i j hi hj => by
                  obtain ⟨g1, g2, g3, g4⟩ := hER i hi
                  obtain ⟨_, g5, g6⟩ := World.cells?_some g1
                  have := g6 j (by omega)
                  rw [addNone, addNone, Nat.add_assoc] at this
                  exact ⟨this, _, List.getElem?_eq_getElem (by omega)⟩
                have hnR : ∀ i r, nth ((List.range ln).map R) i = some r → i < ln ∧ r = R i := fun i r hr => by
                  have := nth_some_lt hr
                  simp at this
                  rw [nth_eq] at hr
                  simp [this] at hr
                  exact ⟨this, hr.symm⟩
                have hjs : ∀ {j : Nat} {k : Kd}, nth sg j = some k → j < sg.length := fun h => nth_some_lt h
                have := DRel.sl (s := s) sg ((List.range ln).map R) blk off cap (fun i j => (E i).getD j .nilFunc) ⟨ho _, hh _, hlt⟩ hc.1 (by simpa using hz) (by simpa using h1)
                  (fun i r hr => by obtain ⟨g1, rfl⟩ := hnR i r hr; exact (hER i g1).2.1)
                  (fun i j r k d hr hk hd => by
                    obtain ⟨g1, rfl⟩ := hnR i r hr
                    obtain ⟨g2, v, g3⟩ := hget i j g1 (hjs hk)
                    rw [g2, g3, List.getD_eq_getElem?_getD, g3]; rfl)
                  (fun i j r k d hr hk hd => by
                    obtain ⟨g1, rfl⟩ := hnR i r hr
                    obtain ⟨g2, v, g3⟩ := hget i j g1 (hjs hk)
                    rw [List.getD_eq_getElem?_getD, g3]
                    exact ((hER i g1).2.2.2 j k d v hk hd g3).1)
                simp only [List.length_map, List.length_range] at this
                refine Opened.one this (.sl sg _ hc.1 (by simp; omega) (fun i r hr => by obtain ⟨g1, rfl⟩ := hnR i r hr; exact (hER i g1).2.1) fun i j r k d hr hk hd => ?_)
                obtain ⟨g1, rfl⟩ := hnR i r hr
                obtain ⟨g2, v, g3⟩ := hget i j g1 (hjs hk)
                exact ((hER i g1).2.2.2 j k d v hk hd g3).2
          · simp at h
        · simp at h
      · rename_i m e hu
        split at h
        · rename_i sg hs
          split at h
          · rename_i hc
            simp at h; subst h
            obtain ⟨xs, fu, _, _, g1, g2, g3⟩ := DataW.trod_array hu ht
            refine Opened.catRep m (by rw [g1, hc.2]) fun i hi => ?_
            have := g3 i hi
            rw [hc.1] at this
            exact ihT fu e _ (xs[i]'(by omega)) sg hs (by rw [this]; simp [g2, hi])
          · simp at h
        · simp at h
      · rename_i fs hu
        split at h
        · rename_i sg hs
          split at h
          · rename_i hc
            simp at h; subst h
            obtain ⟨g1, m, g2⟩ := trod_struct_inv hu ht
            have := ihF m 0 fs.toList cs sg hs (by omega) g2
            simpa using this
          · simp at h
        · simp at h
      · simp at h
    · cases fs with
      | nil =>
        simp [kdsF] at h
        subst h
        rw [List.drop_of_length_le (by simp at hl; omega)]
        exact Opened.nil
      | cons f fs =>
        unfold kdsF at h
        split at h
        · rename_i sg hs
          split at h
          · rename_i hc
            split at h
            · rename_i r hr
              simp at h; subst h
              obtain ⟨y, hy⟩ := hf f (by simp)
              have h1 := ihT fuel f.type _ y sg hs hy
              rw [hc.1, hc.2] at h1
              have h2 := ihF fuel (off + sg.length) fs cs r hr (by rw [hl]; simp; omega) fun g hg => hf g (by simp [hg])
              have e : cs.drop off = (cs.drop off).take sg.length ++ cs.drop (off + sg.length) := by rw [← List.drop_drop]; exact (List.take_append_drop _ _).symm
              rw [e]
              exact h1.append h2
            · simp at h
          · simp at h
        · simp at h
end
end Go.Sy
