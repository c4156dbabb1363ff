/- The way from a contract to a row: what a call that owns nothing old leaves as it was. -/
import Derived.Test.YtlgmbpnlakjefaaSyO1
import Derived.ChangeOld
namespace Go.Sy
set_option linter.unusedSimpArgs false
set_option linter.unusedVariables false

/-- at a call's begin: nothing is owned, nothing is hidden -/
def sit0 (W : World) : Sit := ⟨W, [], fun _ => False, fun _ => False⟩
/-- all that was there is as it was -/
structure Old (W W' : World) : Prop where
  os : W'.os = W.os
  out : W'.output = W.output
  block : ∀ k, k < W.heap.size → W'.heap[k]? = W.heap[k]?
theorem Ev.old {W : World} {s' : Sit} (h : Ev (sit0 W) s') : Old W s'.w := ⟨h.wos, h.wout, fun k hk => h.keep k hk (fun e => e)⟩
theorem Old.frame {W W' : World} (h : Old W W') (may : MemPlace → Prop) : W.keptBut W' may := by
  refine ⟨h.os, h.out, fun i hi => ?_⟩
  rw [h.block i hi]
  split <;> simp_all
theorem Old.same {W W' : World} (h : Old W W') {p : MemPlace} (hp : p.block < W.heap.size) : W.sameAt W' p := by
  cases p with
  | cell b o => exact World.cell?_of_block (w := W) (h.block b hp)
  | map b => exact h.block b hp
def typesOk (P : Program) : List TypeId → Bool
  | [] => true
  | t :: l => P.readableRec t && decide (t < P.types.size) && typesOk P l
theorem Old.trodAll {H : Type} {enc : TypeId × Value → H} {P : Program} (hl : laidOutB P = true) {W W' : World} (ho : Old W W') : ∀ {ts : List TypeId} {vs : List Value} {ds : List (DataW H)} {ps : List MemPlace},
    typesOk P ts = true → DataW.TrodAll enc P W 0 (fun _ => true) true ts vs ds ps → (∀ x ∈ ps, x.block < W.heap.size) → DataW.TrodAll enc P W' 0 (fun b => decide (b < W.heap.size)) true ts vs ds ps
  | [], vs, ds, ps, _, h, _ => by
    cases vs <;> cases ds <;> simp_all [DataW.TrodAll]
  | t :: ts, vs, ds, ps, hk, h, hlt => by
    simp only [typesOk, Bool.and_eq_true, decide_eq_true_eq] at hk
    cases vs with
    | nil => simp [DataW.TrodAll] at h
    | cons v vs =>
      cases ds with
      | nil => simp [DataW.TrodAll] at h
      | cons d ds =>
        obtain ⟨p, q, h1, h2, rfl⟩ := h
        exact ⟨p, q, WideElems.Trod_stays hl hk.1.1 hk.1.2 h1 (fun x hx => ho.same (hlt x (by simp [hx]))) (fun x hx => by simpa using hlt x (by simp [hx])), ho.trodAll hl hk.2 h2 fun x hx => hlt x (by simp [hx]), rfl⟩
/-- the result is true, whatever else -/
def isTrue (av : AV) (_ : Heap) : Prop := ∀ s v, VRel s av v → v = .bool true
theorem isTrue_lit {h : Heap} : isTrue (.bool (.l true)) h := fun s v hr => by simpa [VRel, BX.v] using hr
theorem isTrue_t {h : Heap} {f : Unit → Bool} (e : f () = true) : isTrue (.bool (.t f)) h := fun s v hr => by simpa [VRel, BX.v, e] using hr
theorem HRel.zero (W : World) : HRel (sit0 W) [] := ⟨rfl, fun j o h => (by cases h), fun j k o q a b z y h => (by cases h), fun b h => h.elim, fun b h => h.elim, fun b h => h.elim⟩
theorem Sound.law {P : Program} {f : FuncId} {C : Con} (hS : Sound P f C) {W : World} {args : List AV} {vals : List Value} (hv : VRels (sit0 W) args vals) (hc : C args [] isTrue) :
    Calls P f vals.toArray W fun e W' => e = .returned (.bool true) ∧ Old W W' := by
  refine Calls.mono (hS (sit0 W) [] args vals isTrue (HRel.zero W) hv hc) ?_
  rintro e W' ⟨s', v, av, h', rfl, rfl, hE, _, _, hr, hk⟩
  exact ⟨by rw [hk s' v hr], hE.old⟩

/-! ### one argument: what its value stands for -/
/-- a type's row of cells, by its data -/
def DsOk (sig : List Kd) (ds : List D) : Prop := ds.length = sig.length ∧ ∀ (j : Nat) (k : Kd) (d : D), nth sig j = some k → nth ds j = some d → DWf k d
section
variable {H : Type} {enc : TypeId × Value → H} {P : Program} {W : World}
theorem opened0 {spare : Nat → Bool} {held : Bool} {n t : Nat} {v : Value} {d : DataW H} {ps : List MemPlace} {sig : List Kd} (hk : kdsT P n t = some sig) (h : DataW.Trod enc P W 0 spare held t v d ps) : Opened (sit0 W) sig v.cells.toList := by
  obtain ⟨fuel, hf⟩ := h
  exact (opened (s := sit0 W) (fun b h => h) (fun b h => h) n).1 fuel t _ _ sig hk hf
theorem Opened.agg {s : Sit} {sig : List Kd} {cs : Array Value} (h : Opened s sig cs.toList) : ∃ ds, DsOk sig ds ∧ VRel s (.agg (cellsOf (fun _ => ds) sig 0)) (.agg cs) := by
  obtain ⟨ds, h1, h2, h3⟩ := h
  refine ⟨ds, ⟨h1, fun j k d hk hd => ?_⟩, ?_⟩
  · have hj := nth_some_lt hk
    exact (h3 j k d _ hk hd (List.getElem?_eq_getElem (by omega))).2
  · simp only [VRel]
    refine ⟨cs, rfl, cellsOf_rel sig 0 cs.toList h2 fun i k hk => ?_⟩
    have hi := nth_some_lt hk
    have hd : nth ds i = some (ds.getD (0 + i) (.i 0)) := by
      rw [nth_eq, List.getD_eq_getElem?_getD, Nat.zero_add, List.getElem?_eq_getElem (by omega)]; rfl
    exact ⟨_, List.getElem?_eq_getElem (by omega), (h3 i k _ _ hk hd (List.getElem?_eq_getElem (by omega))).1⟩
/-- rows of m data each -/
def rowsD (m : Nat) : Nat → List D → List (List D)
  | 0, _ => []
  | n + 1, l => l.take m :: rowsD m n (l.drop m)
theorem rowsD_length (m : Nat) : ∀ n l, (rowsD m n l).length = n
  | 0, _ => rfl
  | n + 1, l => by simp [rowsD, rowsD_length m n]
theorem rowsD_nth (m : Nat) : ∀ n (l : List D) i, i < n → nth (rowsD m n l) i = some ((l.drop (i * m)).take m)
  | 0, _, _, h => by omega
  | n + 1, l, 0, _ => by simp [rowsD, nth]
  | n + 1, l, i + 1, h => by
    simp only [rowsD, nth]
    rw [rowsD_nth m n _ i (by omega), List.drop_drop, show (i + 1) * m = m + i * m by rw [Nat.add_mul]; omega]
theorem catRep_nth (sig : List Kd) : ∀ n i j, i < n → j < sig.length → nth (catRep sig n) (i * sig.length + j) = nth sig j
  | 0, _, _, h, _ => by omega
  | n + 1, 0, j, _, hj => by
    simp only [catRep, nth_append]
    rw [if_pos (by omega)]; congr 1; omega
  | n + 1, i + 1, j, h, hj => by
    simp only [catRep, nth_append]
    have e : (i + 1) * sig.length + j = sig.length + (i * sig.length + j) := by rw [Nat.add_mul]; omega
    rw [e, if_neg (by omega), Nat.add_sub_cancel_left]
    exact catRep_nth sig n i j (by omega) hj
theorem Opened.arr {s : Sit} {sig : List Kd} {n : Nat} {cs : Array Value} (h0 : 0 < sig.length) (h : Opened s (Go.Sy.catRep sig n) cs.toList) : ∃ ds, DsOk (Go.Sy.catRep sig n) ds ∧ VRel s (.arr sig fun _ => rowsD sig.length n ds) (.agg cs) := by
  obtain ⟨ds, h1, h2, h3⟩ := h
  have hl := catRep_length sig n
  refine ⟨ds, ⟨h1, fun j k d hk hd => ?_⟩, ?_⟩
  · have hj := nth_some_lt hk
    exact (h3 j k d _ hk hd (List.getElem?_eq_getElem (by omega))).2
  · simp only [VRel]
    have hlen : ∀ i, i < n → i * sig.length + sig.length ≤ n * sig.length := fun i hi => by
      have := Nat.mul_le_mul_right sig.length (show i + 1 ≤ n from hi)
      rw [Nat.add_mul] at this; omega
    refine ⟨cs, rfl, by rw [rowsD_length]; simpa [hl] using h2, h0, fun i r hr => ?_, fun i j r k d hr hk hd => ?_⟩
    · have hi := nth_some_lt hr
      rw [rowsD_length] at hi
      rw [rowsD_nth _ _ _ _ hi] at hr
      simp at hr; subst hr
      have := hlen i hi
      simp; omega
    · have hi := nth_some_lt hr
      rw [rowsD_length] at hi
      rw [rowsD_nth _ _ _ _ hi] at hr
      simp at hr; subst hr
      have hj := nth_some_lt hk
      have := hlen i hi
      have hd' : nth ds (i * sig.length + j) = some d := by
        rw [nth_eq] at hd ⊢
        rw [List.getElem?_take_of_lt hj, List.getElem?_drop] at hd
        exact hd
      have hk' := catRep_nth sig n i j hi hj
      rw [hk] at hk'
      have hc : cs.toList[i * sig.length + j]? = some (cs.toList[i * sig.length + j]'(by rw [h2, hl]; omega)) := List.getElem?_eq_getElem _
      exact ⟨_, (Array.getElem?_toList (xs := cs)).symm.trans hc, (h3 _ k d _ hk' hd' hc).1⟩
/-! the arguments' own forms -/
theorem arg_agg {n t : Nat} {r : Reach} {b0 : Nat} {v : Value} {d : DataW H} {ps : List MemPlace} {sig : List Kd} (hk : kdsT P n t = some sig) (hagg : (match P.underlying t with | some (.struct _) | some (.array _ _) => true | _ => false) = true)
    (hval : Value.okWide P W r b0 t v) (h : DataW.Trod enc P W 0 (fun _ => true) true t v d ps) : ∃ ds, DsOk sig ds ∧ VRel (sit0 W) (.agg (cellsOf (fun _ => ds) sig 0)) v := by
  have hv : ∃ cs, v = .agg cs := by
    unfold Value.okWide at hval
    split at hval
    · obtain ⟨cs, rfl, _⟩ := hval; exact ⟨cs, rfl⟩
    · obtain ⟨cs, rfl, _⟩ := hval; exact ⟨cs, rfl⟩
    · split at hagg <;> simp_all
  obtain ⟨cs, rfl⟩ := hv
  exact (opened0 hk h).agg
theorem arg_arr {n t m : Nat} {r : Reach} {b0 : Nat} {v : Value} {d : DataW H} {ps : List MemPlace} {sig : List Kd} (h0 : 0 < sig.length) (hk : kdsT P n t = some (catRep sig m)) (hagg : (match P.underlying t with | some (.struct _) | some (.array _ _) => true | _ => false) = true)
    (hval : Value.okWide P W r b0 t v) (h : DataW.Trod enc P W 0 (fun _ => true) true t v d ps) : ∃ ds, DsOk (catRep sig m) ds ∧ VRel (sit0 W) (.arr sig fun _ => rowsD sig.length m ds) v := by
  have hv : ∃ cs, v = .agg cs := by
    unfold Value.okWide at hval
    split at hval
    · obtain ⟨cs, rfl, _⟩ := hval; exact ⟨cs, rfl⟩
    · obtain ⟨cs, rfl, _⟩ := hval; exact ⟨cs, rfl⟩
    · split at hagg <;> simp_all
  obtain ⟨cs, rfl⟩ := hv
  exact (opened0 hk h).arr h0
theorem arg_one {n t : Nat} {v : Value} {d : DataW H} {ps : List MemPlace} {k : Kd} (hk : kdsT P n t = some [k]) (hone : v.cells.toList = [v]) (h : DataW.Trod enc P W 0 (fun _ => true) true t v d ps) : ∃ e, DWf k e ∧ VRel (sit0 W) (cellOf k fun _ => e) v := by
  have := opened0 hk h
  rw [hone] at this
  obtain ⟨ds, h1, h2, h3⟩ := this
  obtain ⟨e, rfl⟩ : ∃ e, ds = [e] := by
    match ds, h1 with
    | [e], _ => exact ⟨e, rfl⟩
  obtain ⟨g1, g2⟩ := h3 0 k e v rfl rfl rfl
  exact ⟨e, g2, cellOf_rel g1⟩
theorem arg_int {t : Nat} {r : Reach} {b0 : Nat} {v : Value} {d : DataW H} {ps : List MemPlace} {k : IntKind} (hu : P.underlying t = some (.int k)) (hval : Value.okWide P W r b0 t v) (h : DataW.Trod enc P W 0 (fun _ => true) true t v d ps) :
    ∃ x : Int, (Lit.int k x).wf = true ∧ VRel (sit0 W) (.int k (.t fun _ => x)) v := by
  obtain ⟨x, rfl, rfl, rfl, wx⟩ := ChangeShapes.open_int hu hval h
  exact ⟨x, wx, by simp [VRel, IX.v]⟩
end
end Go.Sy
