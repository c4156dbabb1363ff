/- Soundness: what makes memory. -/
import Derived.Test.YtlgmbpnlakjefaaSyL
import Derived.Laws.Append
namespace Go.Sy
set_option linter.unusedSimpArgs false
set_option linter.unusedVariables false
set_option linter.unusedSectionVars false

def Sit.drew (s : Sit) : Sit := { s with w := s.w.drew }
theorem drew_ev (s : Sit) : Ev s s.drew := ⟨Nat.le_refl _, fun _ _ _ => rfl, fun _ _ => rfl, fun _ h => .inl h, rfl, rfl, rfl⟩
theorem drew_ok {s : Sit} {h : Heap} (hh : HRel s h) : HRel s.drew h where
  len := hh.len
  obj j o ho := (hh.obj j o ho).keep (drew_ev s) (prefix_refl' _) (fun _ _ _ => rfl) fun _ hb _ _ => hb
  inj := hh.inj
  ownlt := hh.ownlt
  hidlt := hh.hidlt
  apart := hh.apart
theorem drew_un {s : Sit} {h : Heap} (tc : List Tch) : Un s s.drew h h tc := fun _ _ hl => ⟨hl, fun _ _ => rfl⟩
theorem Un.trans {s s' s'' : Sit} {h h' h'' : Heap} {tc tc' : List Tch} (hp : s.base <+: s'.base) (h1 : Un s s' h h' tc) (h2 : Un s' s'' h' h'' tc') (hc : ∀ t, clashes t tc = false → clashes t tc' = false) :
    Un s s'' h h'' tc := fun t ht hl => by
  obtain ⟨g1, g2⟩ := h1 t ht hl
  obtain ⟨g3, g4⟩ := h2 t (hc t ht) g1
  exact ⟨g3, fun a ha => by rw [g4 a (ha.prefix hp), g2 a ha]⟩

/-- an owned object goes on under a new number -/
theorem alias_ok {s : Sit} {h : Heap} (hh : HRel s h) {b : Nat} {o : Obj} {ad : Addr} {sz : Nat} (ho : nth h b = some (some o)) (hm : o.mt = true) (hb : nth s.base b = some (some ad, sz))
    {sig : List Kd} {l : Unit → List (List D)} {off : Nat} (h0 : 0 < sig.length) (hd : DIn s sig (s.mem ⟨ad.block, off, none⟩) (l ())) :
    HRel { s with base := s.base ++ [(some (⟨ad.block, off, none⟩ : Addr), sig.length)] } (upd h b none ++ [some ⟨true, .rows sig l⟩]) := by
  have hE : Ev s { s with base := s.base ++ [(some (⟨ad.block, off, none⟩ : Addr), sig.length)] } := ⟨Nat.le_refl _, fun _ _ _ => rfl, fun _ _ => rfl, fun _ h => .inl h, rfl, rfl, rfl⟩
  have hp : s.base <+: { s with base := s.base ++ [(some (⟨ad.block, off, none⟩ : Addr), sig.length)] }.base := List.prefix_append _ _
  have hlen := hh.len
  have ul : (upd h b (none : Option Obj)).length = h.length := by rw [upd_eq]; simp
  have old : ∀ j x, nth (upd h b none ++ [some (⟨true, .rows sig l⟩ : Obj)]) j = some (some x) → (j < h.length ∧ j ≠ b ∧ nth h j = some (some x)) ∨ (j = h.length ∧ x = ⟨true, .rows sig l⟩) := by
    intro j x hx
    rw [nth_append, ul] at hx
    split at hx
    · rw [nth_upd] at hx
      split at hx
      · cases hq : nth h j <;> rw [hq] at hx <;> simp at hx
      · rename_i hlt hne
        exact .inl ⟨hlt, fun e => hne e.symm, hx⟩
    · have := nth_some_lt hx
      simp at this
      obtain rfl : j = h.length := by omega
      simp [nth] at hx
      exact .inr ⟨rfl, hx.symm⟩
  have bnew : nth (s.base ++ [(some (⟨ad.block, off, none⟩ : Addr), sig.length)]) h.length = some (some ⟨ad.block, off, none⟩, sig.length) := by
    rw [nth_append, if_neg (by omega), hlen]; simp [nth]
  have bold : ∀ j, j < h.length → nth (s.base ++ [(some (⟨ad.block, off, none⟩ : Addr), sig.length)]) j = nth s.base j := fun j hj => by
    rw [nth_append, if_pos (by omega)]
  have fl := ((hh.obj b o ho).block hb).1
  refine ⟨by simp [ul, hlen], ?_, ?_, hh.ownlt, hh.hidlt, hh.apart⟩
  · intro j x hx
    rcases old j x hx with ⟨hj, _, hx⟩ | ⟨rfl, rfl⟩
    · exact (hh.obj j x hx).keep hE hp (fun _ _ _ => rfl) fun _ hb _ _ => hb
    · refine ⟨_, _, bnew, rfl, h0, .inr ⟨_, rfl, rfl, hd.mono hE fun _ => rfl, ?_⟩⟩
      rw [hm] at fl
      exact fl
  · intro j k x q a a' z y hj hk hmx hmq ha ha' haa
    rcases old j x hj with ⟨hj1, hj2, hj3⟩ | ⟨rfl, rfl⟩
    · rcases old k q hk with ⟨hk1, hk2, hk3⟩ | ⟨rfl, rfl⟩
      · simp only [bold j hj1] at ha
        simp only [bold k hk1] at ha'
        exact hh.inj j k x q a a' z y hj3 hk3 hmx hmq ha ha' haa
      · simp only [bold j hj1] at ha
        simp only [bnew] at ha'
        simp at ha'
        refine absurd (hh.inj j b x o a ad z sz hj3 ho hmx hm ha hb (by rw [haa, ← ha'.1])) hj2
    · rcases old k q hk with ⟨hk1, hk2, hk3⟩ | ⟨rfl, rfl⟩
      · simp only [bold k hk1] at ha'
        simp only [bnew] at ha
        simp at ha
        refine absurd (hh.inj k b q o a' ad y sz hk3 ho hmq hm ha' hb (by rw [← haa, ← ha.1])) hk2
      · rfl
theorem upd_none_live {h : Heap} {b j : Nat} (hj : j ≠ b) (hl : Live h j) (x : Option Obj) : Live (upd h b x) j := by
  obtain ⟨o, ho⟩ := hl
  exact ⟨o, by rw [nth_upd, if_neg (fun e => hj e.symm)]; exact ho⟩
theorem append_live {h : Heap} {j : Nat} (hl : Live h j) (m : Heap) : Live (h ++ m) j := by
  obtain ⟨o, ho⟩ := hl
  exact ⟨o, by rw [nth_append, if_pos (nth_some_lt ho)]; exact ho⟩
theorem clash_obj {t : Tch} {b : Nat} {tc : List Tch} (hm : (.obj b) ∈ tc) (hc : clashes t tc = false) : t.id ≠ b := by
  induction tc with
  | nil => cases hm
  | cons y l ih =>
    simp only [clashes] at hc
    split at hc
    · cases hc
    · rename_i hy
      rcases List.mem_cons.1 hm with rfl | hm
      · intro e
        cases t <;> (simp only [Tch.id] at e; simp only [Tch.clash] at hy; rw [e, Nat.beq_refl] at hy; cases hy)
      · exact ih hm hc
/-- an object is forgotten -/
theorem kill_ok {s : Sit} {h : Heap} (hh : HRel s h) (b : Nat) : HRel s (upd h b none) where
  len := by rw [upd_eq]; simpa using hh.len
  obj j o ho := by
    rw [nth_upd] at ho
    split at ho
    · cases hq : nth h j <;> rw [hq] at ho <;> simp at ho
    · exact hh.obj j o ho
  inj j k o q a a' z y hj hk := by
    rw [nth_upd] at hj hk
    split at hj
    · cases hq : nth h j <;> rw [hq] at hj <;> simp at hj
    · split at hk
      · cases hq : nth h k <;> rw [hq] at hk <;> simp at hk
      · exact hh.inj j k o q a a' z y hj hk
  ownlt := hh.ownlt
  hidlt := hh.hidlt
  apart := hh.apart

theorem shape_alloc (w : World) (c : Array Value) (t : TypeId) : (w.alloc (.cells c t)).shape? w.heap.size = some (t, c.size) := by
  unfold World.shape?
  show (match (w.heap.push (.cells c t))[w.heap.size]? with | some (.cells c elem _) => some (elem, c.size) | _ => none) = _
  rw [Array.getElem?_push_size]
section
variable {P : Program} {T : Tab} (hT : TabOk P T) {s : Sit} {h : Heap} (hh : HRel s h) {K : AV → Heap → List Tch → Prop}
include hT hh
omit hh in
theorem contOf_ok {t : Nat} {v : AV} {u : Value} {K : Cont → Prop} (hc : contOf T t v K) (hr : VRel s v u) : ∃ c, K c ∧ ContIn s u.cells c := by
  unfold contOf ti at hc
  split at hc
  · rename_i d hd
    split at hc
    · rename_i n e sig _ _
      split at hc
      · rename_i h0
        have h0 := Nat.le_of_ble_eq_true h0
        rw [len_eq] at h0
        obtain ⟨l, a, hk, rfl, h1, h2, h3⟩ := asRows_sound hc hr
        exact ⟨_, hk, by omega, h3⟩
      · exact hc.elim
    · obtain ⟨d', cs, _, hk, h1, _⟩ := cellsV_sound hc hr
      exact ⟨_, hk, h1⟩
  · exact hc.elim
/-- a new object comes of it -/
theorem new_ok {x : Sem Value} {arr : Array Value} {t : TypeId} {c : Cont} {mkv : Addr → Value} {av : AV} (hx : x.run P s.w = .ok (mkv ⟨s.w.heap.size, 0, none⟩) (s.w.alloc (.cells arr t))) (hc : ContIn s arr c)
    (hv : VRel (s.grow arr t (szOf c)) av (mkv ⟨s.w.heap.size, 0, none⟩)) (hK : K av (h ++ [some ⟨true, c⟩]) []) : EffOk P s h (do pure (Next.value (← x))) K :=
  ⟨s.grow arr t (szOf c), av, _, _, [], _, by simp only [Sem.run_bind, hx, Result.andThen_ok]; rfl, .inl rfl, grow_ev _ _ _ _, ⟨_, rfl⟩, grow_ok hh t hc, hv, grow_un hh _ _ _ _ _, hK⟩
theorem alloc_ok {t : Nat} {d : TD} (hd : T t = some d) (hz : zeroOf d fun v => contOf T t v fun c => push h ⟨true, c⟩ fun n h' => K (.ptr n (.l 0) (.l 0)) h' []) :
    EffOk P s h (do pure (Next.value (← Instr.alloc t true (.tuple #[])))) K := by
  have hk := hT t d hd
  obtain ⟨i, z, hi, _, _, hzi, hzs, hzr, hza, hzn⟩ := hk.info
  have hrun : (Instr.alloc t true (.tuple #[])).run P s.w = .ok (.pointer (some ⟨s.w.heap.size, 0, none⟩)) (s.w.alloc (.cells z.cells t)) := by
    simp [Instr.alloc, zeroValue, typeInfo, hi, hzi, newVar, newRow]
  have go : ∀ av, VRel s av z → (contOf T t av fun c => push h ⟨true, c⟩ fun n h' => K (.ptr n (.l 0) (.l 0)) h' []) → EffOk P s h (do pure (Next.value (← Instr.alloc t true (.tuple #[])))) K := by
    intro av hav hc
    obtain ⟨c, hc, hci⟩ := contOf_ok hT hc hav
    exact new_ok hT hh (mkv := fun a => .pointer (some a)) hrun hci (by simp only [VRel]; exact ⟨_, grow_place hh _ _ _, rfl⟩) hc
  unfold zeroOf at hz
  split at hz
  · rename_i ha
    exact go _ (by rw [hza ha]; simp only [VRel]; exact ⟨_, rfl, hzr.rels s⟩) hz
  · rename_i ha
    split at hz
    · rename_i v hv
      refine go _ ?_ hz
      have := hzr.rels s
      rw [hv, hzn ha] at this
      simpa [VRels] using this
    · exact hz.elim
theorem box_ok {t : Nat} {x : AV} {u : Value} (hx : VRel s x u) (hc : contOf T t x fun c => push h ⟨true, c⟩ fun n h' => K (.ptr n (.l 0) (.l 0)) h' []) : EffOk P s h (do pure (Next.value (← Instr.box t u))) K := by
  obtain ⟨c, hc, hci⟩ := contOf_ok hT hc hx
  refine new_ok hT hh (mkv := fun a => .pointer (some a)) (arr := u.cells) (t := t) ?_ hci (by simp only [VRel]; exact ⟨_, grow_place hh _ _ _, rfl⟩) hc
  simp [Instr.box, newVar, newRow]
omit hT hh in
theorem rep_nth {α : Type} (l : List α) (h0 : 0 < l.length) : ∀ (n j : Nat), j < n * l.length → nth (rep n l) j = nth l (j % l.length)
  | 0, j, h => by simp at h
  | n + 1, j, h => by
    simp only [rep]
    rw [nth_append]
    split
    · rename_i hj; rw [Nat.mod_eq_of_lt hj]
    · rename_i hj
      rw [rep_nth l h0 n (j - l.length) (by rw [Nat.succ_mul] at h; omega), ← Nat.mod_eq_sub_mod (by omega)]
omit hT hh in
theorem rep_length {α : Type} (l : List α) : ∀ n, (rep n l).length = n * l.length
  | 0 => by simp [rep]
  | n + 1 => by simp [rep, rep_length l n, Nat.succ_mul, Nat.add_comm]
omit hT hh in
theorem zeros_rel {zs : List AV} {z : Array Value} (hz : ZRels zs z.toList) (h0 : 0 < z.size) (n : Nat) : VRels s (rep n zs) ((Array.range (n * z.size)).map (z[· % z.size]!)).toList := by
  have hl : zs.length = z.size := by rw [← Array.length_toList, hz.length]
  refine VRels.mk (by simp [rep_length, hl]) fun i a ha => ?_
  have hi := nth_some_lt ha
  rw [rep_length, hl] at hi
  rw [rep_nth zs (by omega) n i (by rw [hl]; exact hi), hl] at ha
  obtain ⟨v, hv, hr⟩ := (hz.rels s).nth ha
  refine ⟨v, ?_, hr⟩
  simp only [Array.getElem?_toList] at hv
  have hg : z[i % z.size]! = v := by simp [getElem!_def, hv]
  simp [hi, hg]
theorem new_slice {arr : Array Value} {t : TypeId} {sig : List Kd} {l : Unit → List (List D)} {n c : NX} {cap : Nat} {ex : Bool} (h0 : 0 < sig.length) (h1 : n.v ≤ c.v) (h2 : c.v ≤ cap) (h3 : ex = true → cap = c.v) (h4 : cap * sig.length ≤ arr.size) :
    VRel (s.grow arr t sig.length) (.sl (len h) (.l 0) (.l 0) sig.length n c ex) (.slice (some ⟨s.w.heap.size, 0, none⟩) n.v cap) := by
  simp only [VRel]
  refine ⟨_, _, rfl, h1, h2, h3, h0, ?_, .inr ⟨_, rfl, grow_place hh _ _ _, t, arr.size, ?_, by simpa using h4⟩⟩
  · simp [Sit.grow, len_eq, hh.len]
  · exact shape_alloc _ _ _
theorem buildSlice_ok {t n : Nat} {ps : List (Nat × AV)} {qs : Array (Nat × Value)} (hb : eBuildSlice T t n ps h fun v h' => K v h' []) (hr : PRel s ps qs.toList) : EffOk P s h (do pure (Next.value (← Instr.buildSlice t n qs))) K := by
  unfold eBuildSlice ti at hb
  split at hb
  · rename_i d hd
    obtain ⟨desc, hu, hkd⟩ := (hT t d hd).under
    split at hb
    · rename_i e hf
      rw [hf] at hkd
      simp only [KOk] at hkd
      subst hkd
      split at hb
      · rename_i de hde
        have hke := hT e de hde
        obtain ⟨i, z, hi, _, _, hzi, hzs, hzr, hza, hzn⟩ := hke.info
        split at hb
        · rename_i sig hsig
          split at hb
          · rename_i hsz
            split at hsz
            · rename_i hsz1
              have hsz1 := Nat.eq_of_beq_eq_true hsz1
              have h0 := Nat.le_of_ble_eq_true hsz
              rw [len_eq] at hsz1 h0
              split at hb
              · rename_i hlim
                have hlim := Nat.le_of_ble_eq_true hlim
                have hz0 := zeros_rel (s := s) hzr (by omega) n
                obtain ⟨cs', arr', e1, e2, e3⟩ := fill_ok (place' := fun i => some (i * de.size, de.size)) (fun i off t' hp d' hd' => by
                  simp at hp
                  obtain ⟨rfl, rfl⟩ := hp
                  rw [hde] at hd'
                  simp at hd'
                  subst hd'
                  rfl) hb hr hz0
                split at e3
                · rename_i hfit
                  obtain ⟨f1, f2, f3⟩ := fits_rel n cs' _ hfit e2
                  have hrun : (Instr.buildSlice t n qs).run P s.w = .ok (.slice (some ⟨s.w.heap.size, 0, none⟩) n n) (s.w.alloc (.cells arr' e)) := by
                    have e1' : Instr.fill (fun i => some (i * de.size, de.size)) ((Array.range (n * de.size)).map ((if n * de.size = 0 then #[] else z.cells)[· % (if n * de.size = 0 then #[] else z.cells).size]!)) qs.toList = some arr' := by
                      by_cases hn : n * de.size = 0
                      · rw [if_pos hn]
                        rw [hzs, hn, Array.range_zero', Array.map_empty] at e1
                        rw [hn, Array.range_zero', Array.map_empty]
                        exact e1
                      · rw [if_neg hn, ← hzs]
                        rw [← hzs] at e1
                        exact e1
                    simp only [Instr.buildSlice, Sem.run_bind, run_under hu, Result.andThen_ok, hke.size]
                    rw [Sem.run_ite, if_neg (by omega)]
                    by_cases hn : n * de.size = 0
                    · simp only [hn, if_true, Sem.run_bind, Sem.run_pure, Result.andThen_ok]
                      simp only [hn, if_true, Array.range_zero', Array.map_empty] at e1'
                      simp only [Array.range_zero', Array.map_empty, e1', newRow, Sem.run_bind, run_newObj, Result.andThen_ok, Sem.run_pure]
                      rfl
                    · simp only [hn, if_false, Sem.run_bind, Sem.run_pure, Result.andThen_ok, zeroValue, typeInfo, run_program, hi, hzi]
                      simp only [hn, if_false] at e1'
                      simp [e1', newRow]
                  refine new_ok hT hh (mkv := fun a => .slice (some a) n n) (c := .rows sig _) hrun ⟨h0, by rw [len_eq]; simpa using f3⟩ ?_ e3
                  simp only [szOf]
                  have := new_slice hT hh (arr := arr') (t := e) (l := fun _ => []) (n := .l n) (c := .l n) (cap := n) (ex := true) h0 (Nat.le_refl _) (Nat.le_refl _) (fun _ => rfl) (by rw [← Array.length_toList, f1]; exact Nat.le_refl _)
                  rw [hsz1] at this ⊢
                  exact this
                · exact e3.elim
              · exact hb.elim
            · cases hsz
          · exact hb.elim
        · exact hb.elim
      · exact hb.elim
    · exact hb.elim
  · exact hb.elim
end
end Go.Sy
