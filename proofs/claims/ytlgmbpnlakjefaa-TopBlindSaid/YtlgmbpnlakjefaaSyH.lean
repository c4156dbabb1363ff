/- Soundness: plain operations, all. -/
import Derived.Test.YtlgmbpnlakjefaaSyG
namespace Go.Sy
set_option linter.unusedSimpArgs false
set_option linter.unusedVariables false
set_option linter.unusedSectionVars false

/-! ### building -/
theorem fold_set (off : Nat) : ∀ (l : List Value) (n : Nat) (arr : Array Value),
    ((l.zipIdx n).foldl (fun cs p => cs.setIfInBounds (off + p.2) p.1) arr).size = arr.size ∧
    (off + n + l.length ≤ arr.size → ∀ k, ((l.zipIdx n).foldl (fun cs p => cs.setIfInBounds (off + p.2) p.1) arr)[k]? = if off + n ≤ k ∧ k < off + n + l.length then l[k - (off + n)]? else arr[k]?)
  | [], n, arr => ⟨rfl, fun _ k => by simp; intro h1 h2; omega⟩
  | v :: l, n, arr => by
    obtain ⟨h1, h2⟩ := fold_set off l (n + 1) (arr.setIfInBounds (off + n) v)
    simp only [List.zipIdx_cons, List.foldl_cons]
    refine ⟨by rw [h1]; simp, fun hle k => ?_⟩
    simp only [List.length_cons] at hle
    rw [h2 (by simp; omega) k]
    by_cases hk : k = off + n
    · subst hk
      rw [if_neg (by omega), if_pos (by simp)]
      simp [Array.getElem?_setIfInBounds]; omega
    · rw [Array.getElem?_setIfInBounds_ne (by omega)]
      simp only [List.length_cons]
      by_cases hr : off + (n + 1) ≤ k ∧ k < off + (n + 1) + l.length
      · rw [if_pos hr, if_pos (by omega), show k - (off + n) = (k - (off + (n + 1))) + 1 by omega, List.getElem?_cons_succ]
      · rw [if_neg hr, if_neg (by omega)]
def PRel (s : Sit) : List (Nat × AV) → List (Nat × Value) → Prop
  | [], qs => qs = []
  | p :: l, qs => ∃ q r, qs = q :: r ∧ q.1 = p.1 ∧ VRel s p.2 q.2 ∧ PRel s l r
theorem fill_ok {T : Tab} {s : Sit} {place : Nat → Option (Nat × Nat)} {place' : Nat → Option (Nat × Nat)} (hp : ∀ i off t, place i = some (off, t) → ∀ d, T t = some d → place' i = some (off, d.size)) :
    ∀ {ps : List (Nat × AV)} {qs : List (Nat × Value)} {cs : List AV} {arr : Array Value} {K : List AV → Prop}, fillA T place cs ps K → PRel s ps qs → VRels s cs arr.toList →
      ∃ cs' arr', Instr.fill place' arr qs = some arr' ∧ VRels s cs' arr'.toList ∧ K cs'
  | [], qs, cs, arr, K, h, hr, hv => by
    simp only [PRel] at hr; subst hr
    exact ⟨cs, arr, rfl, hv, h⟩
  | p :: ps, qs, cs, arr, K, h, hr, hv => by
    simp only [PRel] at hr
    obtain ⟨q, r, rfl, hq, hqr, hr⟩ := hr
    simp only [fillA] at h
    split at h
    · rename_i x hx
      obtain ⟨d, vs, hd, h', hvs, hl, _⟩ := cellsV_sound h hqr
      split at h'
      · rename_i cs2 hcs
        obtain ⟨h1, h2, h3⟩ := putAt_some hcs
        obtain ⟨qi, qv⟩ := q
        obtain ⟨xo, xt⟩ := x
        have hpl := hp p.1 xo xt hx d hd
        simp only at hq hqr hvs hcs h1 h2 h3 hd
        subst hq
        have hsz : qv.cells.size = vs.length := by rw [← Array.length_toList, hvs.length]
        have hal : arr.size = cs.length := by rw [← Array.length_toList, hv.length]
        obtain ⟨f1, f2⟩ := fold_set xo qv.cells.toList 0 arr
        simp only [Nat.add_zero, Array.length_toList] at f2
        have hfold : qv.cells.zipIdx.foldl (fun cs p => cs.setIfInBounds (xo + p.2) p.1) arr = qv.cells.toList.zipIdx.foldl (fun cs p => cs.setIfInBounds (xo + p.2) p.1) arr := by
          rw [← Array.foldl_toList, Array.toList_zipIdx]
        have hv2 : VRels s cs2 (qv.cells.toList.zipIdx.foldl (fun cs p => cs.setIfInBounds (xo + p.2) p.1) arr).toList := by
          refine hv.putAt hvs hcs ?_ fun j => ?_
          · rw [Array.length_toList, Array.length_toList]; exact f1
          · rw [Array.getElem?_toList, f2 (by omega) j, Array.length_toList]; simp only [Array.getElem?_toList]
        obtain ⟨cs', arr', e1, e2, e3⟩ := fill_ok hp h' hr hv2
        refine ⟨cs', arr', ?_, e2, e3⟩
        simp only [Instr.fill, hpl]
        rw [if_neg (by simp; constructor <;> omega)]
        rw [show (fun (cs : Array Value) (x : Value × Nat) => match x with | (c, j) => cs.setIfInBounds (xo + j) c) = (fun cs p => cs.setIfInBounds (xo + p.2) p.1) from rfl, hfold]
        exact e1
      · exact h'.elim
    · exact h.elim
theorem parts_rel {s : Sit} {t : List AV} {a : Act} (ht : VRels s t a.tmps.toList) : ∀ l : List (Nat × Operand), PRel s (parts t l) (l.map fun p => (p.1, a.eval p.2))
  | [] => by simp [parts, PRel]
  | p :: l => by simp only [parts, List.map_cons, PRel]; exact ⟨_, _, rfl, rfl, ev_rel ht p.2, parts_rel ht l⟩
theorem listMapM_run {α β : Type} {P : Program} {w : World} {g : α → Sem β} {f : α → β} : ∀ (l : List α), (∀ x ∈ l, (g x).run P w = .ok (f x) w) → (l.mapM g).run P w = .ok (l.map f) w
  | [], _ => by simp
  | x :: l, h => by
    simp only [List.mapM_cons, Sem.run_bind, h x (by simp), Result.andThen_ok, listMapM_run l (fun y hy => h y (by simp [hy])), Sem.run_pure, List.map_cons]
theorem mapM_run {α β : Type} {P : Program} {w : World} {g : α → Sem β} {f : α → β} (l : Array α) (h : ∀ x ∈ l.toList, (g x).run P w = .ok (f x) w) : (l.mapM g).run P w = .ok (l.map f) w := by
  rw [Array.mapM_eq_mapM_toList, Sem.run_map, listMapM_run l.toList h]
  simp only [Result.andThen_ok]
  congr 1
  apply Array.ext'
  simp
section
variable {P : Program} {T : Tab} (hT : TabOk P T) {s : Sit} {st : St} {a : Act} {K : AV → Prop}
include hT
theorem build_ok {t : Nat} {ps : List (Nat × AV)} {qs : Array (Nat × Value)} (h : eBuild T t ps K) (hr : PRel s ps qs.toList) : ValOk P s (Instr.build t qs) K := by
  unfold eBuild ti at h
  split at h
  · rename_i d hd
    have hk := hT t d hd
    obtain ⟨desc, hu, hkd⟩ := hk.under
    split at h
    · rename_i fs hf
      rw [hf] at hkd
      obtain ⟨fields, rfl, h1, h2⟩ := hkd
      have hz : ∃ z, (∀ w, (zeroValue t).run P w = .ok z w) ∧ ZRels d.zero z.cells.toList := by
        obtain ⟨i, z, hi, _, _, hz, _, hzr, _⟩ := hk.info
        exact ⟨z, fun w => by simp [zeroValue, typeInfo, hi, hz], hzr⟩
      obtain ⟨z, hz1, hz2⟩ := hz
      have hplaces : ∀ w, (fields.mapM fun (f : Field) => (do pure (f.offset, ← sizeOf f.type) : Sem (Nat × Nat))).run P w = .ok (fields.map fun (f : Field) => (f.offset, P.cellsOf f.type)) w := fun w =>
        mapM_run fields fun f hf => by
          have := h2 f hf
          cases hi : P.info? f.type with
          | none => rw [hi] at this; simp at this
          | some i => simp [sizeOf, typeInfo, hi, Program.cellsOf]
      obtain ⟨cs', arr', e1, e2, e3⟩ := fill_ok (place' := ((fields.map fun (f : Field) => (f.offset, P.cellsOf f.type))[·]?)) (fun i off t' hp d' hd' => by
        rw [nth_eq, ← h1, List.getElem?_map] at hp
        simp only [Array.getElem?_map]
        simp only [Array.getElem?_toList] at hp
        cases hfi : fields[i]? with
        | none => rw [hfi] at hp; simp at hp
        | some f =>
          rw [hfi] at hp
          simp at hp
          obtain ⟨rfl, rfl⟩ := hp
          obtain ⟨ii, _, hi, hs, _⟩ := (hT f.type d' hd').info
          simp [Program.cellsOf, hi, hs]) h hr (hz2.rels s)
      refine ⟨.agg cs', .agg arr', fun w => ?_, by simp only [VRel]; exact ⟨_, rfl, e2⟩, e3⟩
      simp only [Instr.build, Sem.run_bind, hz1, Result.andThen_ok, run_under hu, hplaces, e1]
      rfl
    · rename_i n e hf
      rw [hf] at hkd
      simp only [KOk] at hkd
      subst hkd
      obtain ⟨de, hde, h⟩ := esz_ok hT h
      have hke := hT e de hde
      have hz : ∃ z, (∀ w, (zeroValue t).run P w = .ok z w) ∧ ZRels d.zero z.cells.toList := by
        obtain ⟨i, z, hi, _, _, hz, _, hzr, _⟩ := hk.info
        exact ⟨z, fun w => by simp [zeroValue, typeInfo, hi, hz], hzr⟩
      obtain ⟨z, hz1, hz2⟩ := hz
      obtain ⟨cs', arr', e1, e2, e3⟩ := fill_ok (place' := fun i => some (i * de.size, de.size)) (fun i off t' hp d' hd' => by
        simp at hp
        obtain ⟨rfl, rfl⟩ := hp
        rw [hde] at hd'
        simp at hd'
        subst hd'
        rfl) h hr (hz2.rels s)
      refine ⟨.agg cs', .agg arr', fun w => ?_, by simp only [VRel]; exact ⟨_, rfl, e2⟩, e3⟩
      simp only [Instr.build, Sem.run_bind, hz1, Result.andThen_ok, run_under hu, hke.size, e1]
      rfl
    · exact h.elim
  · exact h.elim

/-! ### addresses of elements, elements -/
theorem base_rows {h : Heap} (hh : HRel s h) {b : Nat} {o : Obj} {sig : List Kd} {l : Unit → List (List D)} (ho : nth h b = some (some o)) (hc : o.c = .rows sig l) : ∃ ab, nth s.base b = some (ab, sig.length) ∧ 0 < sig.length := by
  obtain ⟨ab, sz, h1, h2⟩ := hh.obj b o ho
  rw [hc] at h2
  obtain ⟨rfl, h0, _⟩ := h2
  exact ⟨ab, h1, h0⟩
theorem place_add {b i f n : Nat} {ad : Addr} (h : s.place b i f ad) : s.place b i (f + n) ⟨ad.block, ad.off + n, none⟩ := by
  obtain ⟨a, z, h1, h2, rfl⟩ := h
  exact ⟨a, z, h1, h2, by simp [Nat.add_assoc]⟩
theorem place_row {b i j z : Nat} {ad : Addr} {ab : Option Addr} (h : s.place b i 0 ad) (hb : nth s.base b = some (ab, z)) : s.place b (i + j) 0 ⟨ad.block, ad.off + j * z, none⟩ := by
  obtain ⟨a, z', h1, h2, rfl⟩ := h
  rw [hb] at h1
  simp at h1
  obtain ⟨rfl, rfl⟩ := h1
  exact ⟨a, z, hb, h2, by simp [Nat.add_mul, Nat.add_assoc]⟩
theorem place_spot {b i f : Nat} {ad : Addr} (h : s.place b i f ad) : ad = ⟨ad.block, ad.off, none⟩ := by
  obtain ⟨a, z, h1, h2, rfl⟩ := h; rfl
theorem add_none {ad : Addr} (h : ad = ⟨ad.block, ad.off, none⟩) (n : Nat) : ad.add n = ⟨ad.block, ad.off + n, none⟩ := by
  rw [h]; simp [Addr.add]
theorem sl_place {b : Nat} {i f n c : NX} {z : Nat} {ex : Bool} {v : Value} (h : VRel s (.sl b i f z n c ex) v) (hn : 0 < n.v) : ∃ ad cap, v = .slice (some ad) n.v cap ∧ s.place b i.v f.v ad ∧ 0 < z := by
  simp only [VRel] at h
  obtain ⟨a, cap, rfl, h1, h2, h3, h4, h5, h6⟩ := h
  rcases h6 with h6 | ⟨ad, rfl, hp, _⟩
  · omega
  · exact ⟨ad, cap, rfl, hp, h4⟩
theorem indexAddr_ok {t : Nat} {x : AV} {u : Value} {n : IX} {k : IntKind} {h' : Heap} (hh : HRel s h') (h : eIndexAddr T t x n h' K) (hx : VRel s x u) : ValOk P s (Instr.indexAt t u (.int k n.v)) K := by
  unfold eIndexAddr ti at h
  split at h
  · rename_i d hd
    have hk := hT t d hd
    obtain ⟨desc, hu, hkd⟩ := hk.under
    split at h
    · rename_i m e hf
      rw [hf] at hkd
      simp only [KOk] at hkd
      subst hkd
      split at h
      · rename_i b i f
        obtain ⟨de, hde, h⟩ := esz_ok hT h
        have hke := hT e de hde
        obtain ⟨h0, h1, h⟩ := inN_ok h
        simp only [VRel] at hx
        obtain ⟨ad, hp, rfl⟩ := hx
        simp only [NX.v] at h1
        have hrun : ∀ w, (Instr.indexAt t (.pointer (some ad)) (.int k n.v)).run P w = .ok (.pointer (some ⟨ad.block, ad.off + n.v.toNat * de.size, none⟩)) w := fun w => by
          simp only [Instr.indexAt, asIntOf, Sem.run_bind, Sem.run_pure, Result.andThen_ok, run_under hu, Instr.sureAddr]
          rw [if_pos ⟨h0, h1⟩]
          simp only [Sem.run_bind, hke.size, Result.andThen_ok, Sem.run_pure, add_none hT (place_spot hT hp)]
        split at h
        · rename_i o ho
          split at h
          · refine ⟨_, _, hrun, ?_, h⟩
            simp only [VRel]
            exact ⟨_, by rw [nAdd_v, nMul_v, natOf_v]; exact place_add hT hp, rfl⟩
          · rename_i sig l hc
            split at h
            · split at h
              · rename_i hsz
                have hsz := Nat.eq_of_beq_eq_true hsz
                rw [len_eq] at hsz
                obtain ⟨ab, hb, _⟩ := base_rows hT hh ho hc
                refine ⟨_, _, hrun, ?_, h⟩
                simp only [VRel]
                exact ⟨_, by rw [nAdd_v, natOf_v, ← hsz]; exact place_row hT (by simpa [NX.v] using hp) hb, rfl⟩
              · exact h.elim
            · exact h.elim
        · exact h.elim
      · exact h.elim
    · rename_i e hf
      rw [hf] at hkd
      simp only [KOk] at hkd
      subst hkd
      split at h
      · rename_i b i f z nn c ex
        obtain ⟨de, hde, h⟩ := esz_ok hT h
        have hke := hT e de hde
        split at h
        · rename_i hz
          have hz := Nat.eq_of_beq_eq_true hz
          obtain ⟨h0, h1, h⟩ := inN_ok h
          obtain ⟨ad, cap, rfl, hp, _⟩ := sl_place hT hx (by omega)
          have hrun : ∀ w, (Instr.indexAt t (.slice (some ad) nn.v cap) (.int k n.v)).run P w = .ok (.pointer (some ⟨ad.block, ad.off + n.v.toNat * z, none⟩)) w := fun w => by
            simp only [Instr.indexAt, asIntOf, Sem.run_bind, Sem.run_pure, Result.andThen_ok, run_under hu]
            rw [if_pos ⟨h0, h1⟩]
            simp only [Sem.run_bind, hke.size, Result.andThen_ok, Sem.run_pure, add_none hT (place_spot hT hp), hz]
          split at h
          · rename_i o ho
            split at h
            · refine ⟨_, _, hrun, ?_, h⟩
              simp only [VRel]
              exact ⟨_, by rw [nAdd_v, nMul_v, natOf_v]; exact place_add hT hp, rfl⟩
            · rename_i sig l hc
              split at h
              · split at h
                · rename_i hsz
                  have hsz := Nat.eq_of_beq_eq_true hsz
                  rw [len_eq] at hsz
                  obtain ⟨ab, hb, _⟩ := base_rows hT hh ho hc
                  refine ⟨_, _, hrun, ?_, h⟩
                  simp only [VRel]
                  exact ⟨_, by rw [nAdd_v, natOf_v, ← hsz]; exact place_row hT (by simpa [NX.v] using hp) hb, rfl⟩
                · exact h.elim
              · exact h.elim
          · exact h.elim
        · exact h.elim
      · exact h.elim
    · exact h.elim
  · exact h.elim
end
end Go.Sy
