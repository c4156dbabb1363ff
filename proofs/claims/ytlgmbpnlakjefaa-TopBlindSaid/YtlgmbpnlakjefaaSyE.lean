/- Soundness: plain operations. -/
import Derived.Test.YtlgmbpnlakjefaaSyD
import Derived.Laws.Entries
import Derived.Laws.Build
import Derived.Laws.ByValue
namespace Go.Sy
set_option linter.unusedSimpArgs false
set_option linter.unusedVariables false

def ZRel (a : AV) (v : Value) : Prop := v.oneCell' = true ∧ ∀ s, VRel s a v
def ZRels : List AV → List Value → Prop
  | [], vs => vs = []
  | a :: l, vs => ∃ v r, vs = v :: r ∧ ZRel a v ∧ ZRels l r
def KOk (P : Program) : TK → TypeDesc → Prop
  | .int k, d => d = .int k
  | .bool, d => d = .bool
  | .slice e, d => d = .slice e
  | .array n e, d => d = .array n e
  | .struct fs, d => ∃ fields : Array Field, d = .struct fields ∧ fields.toList.map (fun f => (f.offset, f.type)) = fs ∧ ∀ f ∈ fields.toList, (P.info? f.type).isSome = true
  | .ptr e, d => d = .pointer e
  | .func, d => ∃ a b c, d = .func a b c
  | .other, d => False
structure TOk (P : Program) (t : Nat) (d : TD) : Prop where
  info : ∃ i z, P.info? t = some i ∧ i.size = d.size ∧ i.bytes = d.bytes ∧ i.zero = some z ∧ z.cells.size = d.size ∧ ZRels d.zero z.cells.toList ∧ (d.isAgg = true → z = .agg z.cells) ∧ (d.isAgg = false → z.cells = #[z])
  under : ∃ desc, P.underlying t = some desc ∧ KOk P d.k desc
def TabOk (P : Program) (T : Tab) : Prop := ∀ t d, T t = some d → TOk P t d

section
variable {P : Program} {T : Tab} {t : Nat} {d : TD}
theorem run_under {desc : TypeDesc} (h : P.underlying t = some desc) (w : World) : (underlying t).run P w = .ok desc w := by
  simp [underlying, h]
theorem TOk.size (h : TOk P t d) (w : World) : (sizeOf t).run P w = .ok d.size w := by
  obtain ⟨i, z, hi, hs, _⟩ := h.info
  simp [sizeOf, typeInfo, hi, hs]
theorem TOk.bytes (h : TOk P t d) (w : World) : ∃ i, (typeInfo t).run P w = .ok i w ∧ i.bytes = d.bytes ∧ i.size = d.size := by
  obtain ⟨i, z, hi, hs, hb, _⟩ := h.info
  exact ⟨i, by simp [typeInfo, hi], hb, hs⟩
theorem TOk.zero (h : TOk P t d) (w : World) : ∃ z, (zeroValue t).run P w = .ok z w ∧ z.cells.size = d.size ∧ ZRels d.zero z.cells.toList ∧ (d.isAgg = true → z = .agg z.cells) ∧ (d.isAgg = false → z.cells = #[z]) := by
  obtain ⟨i, z, hi, hs, hb, hz, h1, h2, h3, h4⟩ := h.info
  exact ⟨z, by simp [zeroValue, typeInfo, hi, hz], h1, h2, h3, h4⟩
theorem TOk.isAgg (h : TOk P t d) (w : World) : (Go.isAgg t).run P w = .ok d.isAgg w := by
  obtain ⟨desc, hu, hk⟩ := h.under
  cases hd : d.k <;> rw [hd] at hk <;> simp only [KOk] at hk <;> try exact hk.elim
  all_goals first
    | (subst hk; simp [Go.isAgg, run_under hu, TD.isAgg, hd])
    | (obtain ⟨f, rfl, _, _⟩ := hk; simp [Go.isAgg, run_under hu, TD.isAgg, hd])
    | (obtain ⟨a, b, c, rfl⟩ := hk; simp [Go.isAgg, run_under hu, TD.isAgg, hd])
end

theorem ZRels.length : ∀ {l : List AV} {vs : List Value}, ZRels l vs → vs.length = l.length
  | [], _, h => by simp [ZRels] at h; simp [h]
  | a :: l, _, h => by
    simp only [ZRels] at h
    obtain ⟨v, r, rfl, _, h⟩ := h
    simp [ZRels.length h]
theorem ZRels.rels (s : Sit) : ∀ {l : List AV} {vs : List Value}, ZRels l vs → VRels s l vs
  | [], _, h => by simpa [VRels, ZRels] using h
  | a :: l, _, h => by
    simp only [ZRels, VRels] at h ⊢
    obtain ⟨v, r, rfl, h1, h⟩ := h
    exact ⟨v, r, rfl, h1.2 s, ZRels.rels s h⟩

/-! ### what an operand is -/
theorem avC_rel (s : Sit) : ∀ v : Value, VRel s (avC v) v
  | .bool b => by simp [avC, VRel, BX.v]
  | .int k n => by simp [avC, VRel, IX.v]
  | .pointer none => by simp [avC, VRel]
  | .slice none 0 0 => by simp [avC, VRel]
  | .nilFunc => by simp [avC, VRel]
  | .pointer (some _) => by simp [avC, VRel]
  | .slice (some _) _ _ => by simp [avC, VRel]
  | .slice none (_ + 1) _ => by simp [avC, VRel]
  | .slice none 0 (_ + 1) => by simp [avC, VRel]
  | .float _ _ => by simp [avC, VRel]
  | .complex _ _ _ => by simp [avC, VRel]
  | .string _ => by simp [avC, VRel]
  | .map _ => by simp [avC, VRel]
  | .chan _ => by simp [avC, VRel]
  | .func _ _ _ => by simp [avC, VRel]
  | .iface _ _ => by simp [avC, VRel]
  | .nilIface => by simp [avC, VRel]
  | .agg _ => by simp [avC, VRel]
  | .tuple _ => by simp [avC, VRel]
theorem avCs_rel (s : Sit) : ∀ vs : List Value, VRels s (vs.map avC) vs
  | [] => by simp [VRels]
  | v :: vs => by simp only [List.map_cons, VRels]; exact ⟨v, vs, rfl, avC_rel s v, avCs_rel s vs⟩
theorem avK_rel (s : Sit) (v : Value) : VRel s (avK v) v := by
  unfold avK
  split
  · simp only [VRel]; exact ⟨_, rfl, avCs_rel s _⟩
  · exact avC_rel s v
section
variable {s : Sit} {st : St} {a : Act}
theorem ev_rel {t : List AV} (ht : VRels s t a.tmps.toList) (x : Operand) : VRel s (ev t x) (a.eval x) := by
  cases x with
  | tmp i =>
    simp only [ev, Act.eval]
    cases hn : nth t i with
    | none => simp [VRel]
    | some v =>
      obtain ⟨u, hu, hr⟩ := ht.nth hn
      have : a.tmps.getD i undef = u := by
        simp only [Array.getElem?_toList] at hu
        simp [Array.getD_eq_getD_getElem?, hu]
      simpa [this] using hr
  | const v => exact avK_rel s v
  | func f => simp [ev, Act.eval, VRel, VRels]
  | global g => simp [ev, VRel]
theorem evs_rel {t : List AV} (ht : VRels s t a.tmps.toList) : ∀ l : List Operand, VRels s (evs t l) (l.map a.eval)
  | [] => by simp [evs, VRels]
  | x :: l => by simp only [evs, List.map_cons, VRels]; exact ⟨_, _, rfl, ev_rel ht x, evs_rel ht l⟩
end

/-! ### arithmetic -/
theorem wrap_inR {k : IntKind} {n : Int} (h : inR k n = true) : k.wrap n = n := by
  simp only [inR, Bool.and_eq_true, decide_eq_true_eq] at h
  obtain ⟨h1, h2⟩ := h
  cases k <;> simp only [IntKind.min, IntKind.max, IntKind.signed, IntKind.bits, IntKind.wrap] at * <;> simp at * <;> omega
theorem ix2_v (g : AOp) (a b : IX) : (ix2 g a b).v = aop g a.v b.v := by cases a <;> cases b <;> rfl
theorem bx2_v (g : COp) (a b : IX) : (bx2 g a b).v = cop g a.v b.v := by cases a <;> cases b <;> rfl
theorem bNot_v (b : BX) : (bNot b).v = !b.v := by cases b <;> rfl
theorem bEq_v (a b : BX) : (bEq a b).v = (a.v == b.v) := by
  unfold bEq
  split
  · simp [BX.v]
  · rw [bNot_v]; simp [BX.v]
  · split <;> simp_all [BX.v, bnot, beqv]
/-- what some arithmetic comes to: a value that is told by the abstract one, whatever the situation -/
def Gets (P : Program) (x : Sem Value) (K : AV → Prop) : Prop := ∃ av v, (∀ w, x.run P w = .ok v w) ∧ (∀ s, VRel s av v) ∧ K av
theorem gets_int {P : Program} {x : Sem Value} {K : AV → Prop} {k : IntKind} {n : IX} (h : ∀ w, x.run P w = .ok (.int k n.v) w) (hK : K (.int k n)) : Gets P x K :=
  ⟨.int k n, _, h, fun s => by simp [VRel], hK⟩
theorem gets_bool {P : Program} {x : Sem Value} {K : AV → Prop} {b : BX} (h : ∀ w, x.run P w = .ok (.bool b.v) w) (hK : K (.bool b)) : Gets P x K :=
  ⟨.bool b, _, h, fun s => by simp [VRel], hK⟩
theorem fit_gets {P : Program} {x : Sem Value} {K : AV → Prop} {k : IntKind} {r : IX} (h : fit k r K) (hr : ∀ w, x.run P w = .ok (.int k (k.wrap r.v)) w) : Gets P x K := by
  unfold fit at h
  split at h
  · exact gets_int (n := .l _) (by simpa [IX.v] using hr) h
  · split at h
    · cases h with
      | mk h1 h2 =>
        refine gets_int (n := .t _) (fun w => ?_) h2
        rw [hr w]
        simp only [IX.v]
        rw [wrap_inR h1]
    · exact gets_int (n := .t _) (by simpa [IX.v] using hr) h
theorem bits_run (P : Program) (op : BinOp) (h : op = .and ∨ op = .or ∨ op = .xor ∨ op = .andNot) (k : IntKind) (x y : Int) (w : World) :
    (Op.intBits op k x y).run P w = .ok (.int k (bitsI op k x y)) w := by
  rcases h with rfl | rfl | rfl | rfl <;> simp [Op.intBits, bitsI]
theorem shl_run (P : Program) (t : TypeId) (k k' : IntKind) (x y : Int) (hy : 0 ≤ y) (w : World) : (binOp .shl t (.int k x) (.int k' y)).run P w = .ok (.int k (shlI k x y)) w := by
  simp only [binOp, Op.shift]
  rw [if_neg (by omega)]; rfl
theorem shr_run (P : Program) (t : TypeId) (k k' : IntKind) (x y : Int) (hy : 0 ≤ y) (w : World) : (binOp .shr t (.int k x) (.int k' y)).run P w = .ok (.int k (shrI k x y)) w := by
  simp only [binOp, Op.shift]
  rw [if_neg (by omega)]; rfl
theorem quo_run (P : Program) (t : TypeId) (k : IntKind) (x y : Int) (hy : y ≠ 0) (w : World) : (binOp .quo t (.int k x) (.int k y)).run P w = .ok (.int k (k.wrap (x.tdiv y))) w := by
  simp [binOp, Op.intDiv, hy]
theorem rem_run (P : Program) (t : TypeId) (k : IntKind) (x y : Int) (hy : y ≠ 0) (w : World) : (binOp .rem t (.int k x) (.int k y)).run P w = .ok (.int k (x.tmod y)) w := by
  simp [binOp, Op.intDiv, hy]
theorem eInt_gets {P : Program} {op : BinOp} {k k' : IntKind} {a b : IX} {K : AV → Prop} (t : TypeId) (hk : op ≠ .shl → op ≠ .shr → k = k') (h : eInt op k a b K) :
    Gets P (binOp op t (.int k a.v) (.int k' b.v)) K := by
  cases op with
  | shl =>
    simp only [eInt] at h
    split at h
    · rename_i y
      split at h
      · rename_i hy
        have hy := of_decide_eq_true hy
        exact gets_int (fun w => by rw [ix2_v]; exact shl_run P t k k' _ _ hy w) h
      · exact h.elim
    · rename_i y
      cases h with
      | mk hy h =>
        exact gets_int (fun w => by rw [ix2_v]; exact shl_run P t k k' _ _ hy w) h
  | shr =>
    simp only [eInt] at h
    split at h
    · rename_i y
      split at h
      · rename_i hy
        have hy := of_decide_eq_true hy
        exact gets_int (fun w => by rw [ix2_v]; exact shr_run P t k k' _ _ hy w) h
      · exact h.elim
    · rename_i y
      cases h with
      | mk hy h =>
        exact gets_int (fun w => by rw [ix2_v]; exact shr_run P t k k' _ _ hy w) h
  | add => simp only [eInt] at h; obtain rfl := hk (by simp) (by simp); exact fit_gets h fun w => by simp [binOp, Op.intArith, ix2_v, aop]
  | sub => simp only [eInt] at h; obtain rfl := hk (by simp) (by simp); exact fit_gets h fun w => by simp [binOp, Op.intArith, ix2_v, aop]
  | mul => simp only [eInt] at h; obtain rfl := hk (by simp) (by simp); exact fit_gets h fun w => by simp [binOp, Op.intArith, ix2_v, aop]
  | quo =>
    simp only [eInt] at h
    obtain rfl := hk (by simp) (by simp)
    split at h
    · rename_i y
      split at h
      · exact h.elim
      · rename_i hy
        have hy0 : y ≠ 0 := of_decide_eq_false hy
        exact fit_gets h fun w => by rw [ix2_v]; exact quo_run P t k _ _ hy0 w
    · rename_i y
      cases h with
      | mk hy h => exact fit_gets h fun w => by rw [ix2_v]; exact quo_run P t k _ _ hy w
  | rem =>
    simp only [eInt] at h
    obtain rfl := hk (by simp) (by simp)
    split at h
    · rename_i y
      split at h
      · exact h.elim
      · rename_i hy
        have hy0 : y ≠ 0 := of_decide_eq_false hy
        exact gets_int (fun w => by rw [ix2_v]; exact rem_run P t k _ _ hy0 w) h
    · rename_i y
      cases h with
      | mk hy h => exact gets_int (fun w => by rw [ix2_v]; exact rem_run P t k _ _ hy w) h
  | and => simp only [eInt] at h; obtain rfl := hk (by simp) (by simp); exact gets_int (fun w => by simp only [binOp, ne_eq, not_true, if_false, ix2_v]; exact bits_run P _ (by simp) _ _ _ _) h
  | or => simp only [eInt] at h; obtain rfl := hk (by simp) (by simp); exact gets_int (fun w => by simp only [binOp, ne_eq, not_true, if_false, ix2_v]; exact bits_run P _ (by simp) _ _ _ _) h
  | xor => simp only [eInt] at h; obtain rfl := hk (by simp) (by simp); exact gets_int (fun w => by simp only [binOp, ne_eq, not_true, if_false, ix2_v]; exact bits_run P _ (by simp) _ _ _ _) h
  | andNot => simp only [eInt] at h; obtain rfl := hk (by simp) (by simp); exact gets_int (fun w => by simp only [binOp, ne_eq, not_true, if_false, ix2_v]; exact bits_run P _ (by simp) _ _ _ _) h
  | lss => simp only [eInt] at h; obtain rfl := hk (by simp) (by simp); exact gets_bool (fun w => by simp [binOp, Op.intCmp, bx2_v, cop]) h
  | leq => simp only [eInt] at h; obtain rfl := hk (by simp) (by simp); exact gets_bool (fun w => by simp [binOp, Op.intCmp, bx2_v, cop]) h
  | gtr => simp only [eInt] at h; obtain rfl := hk (by simp) (by simp); exact gets_bool (fun w => by simp [binOp, Op.intCmp, bx2_v, cop]) h
  | geq => simp only [eInt] at h; obtain rfl := hk (by simp) (by simp); exact gets_bool (fun w => by simp [binOp, Op.intCmp, bx2_v, cop]) h
  | eql => simp only [eInt] at h; obtain rfl := hk (by simp) (by simp); exact gets_bool (fun w => by simp [binOp, Op.intCmp, bx2_v, cop]; rfl) h
  | neq => simp only [eInt] at h; obtain rfl := hk (by simp) (by simp); exact gets_bool (fun w => by simp [binOp, Op.intCmp, bx2_v, cop]; rfl) h
end Go.Sy
