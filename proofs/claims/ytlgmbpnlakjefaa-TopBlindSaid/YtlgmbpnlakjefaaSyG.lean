/- Soundness: an operation that neither reads nor changes memory. -/
import Derived.Test.YtlgmbpnlakjefaaSyF
import Derived.Laws.Slices
namespace Go.Sy
set_option linter.unusedSimpArgs false
set_option linter.unusedVariables false
set_option linter.unusedSectionVars false

theorem nAdd_v (a b : NX) : (nAdd a b).v = a.v + b.v := by
  unfold nAdd
  split
  · simp [NX.v, nadd, nsub, nmul]
  · split <;> simp [NX.v, nadd, nsub, nmul]
  · split <;> simp [NX.v, nadd, nsub, nmul]
theorem nMul_v (a : NX) (e : Nat) : (nMul a e).v = a.v * e := by
  unfold nMul
  split
  · simp
  · split <;> simp [NX.v, nadd, nsub, nmul]
theorem nSub_v (a b : NX) : (nSub a b).v = a.v - b.v := by
  unfold nSub
  split
  · simp [NX.v, nadd, nsub, nmul]
  · split <;> simp [NX.v, nadd, nsub, nmul]
  · simp [NX.v, nadd, nsub, nmul]
theorem natOf_v (a : IX) : (natOf a).v = a.v.toNat := by cases a <;> rfl
theorem ofNat_v (a : NX) : (ofNat a).v = (a.v : Int) := by cases a <;> rfl
theorem leN_ok {a b : NX} {K : Unit → Prop} (h : leN a b K) : a.v ≤ b.v ∧ K () := by
  unfold leN at h
  split at h
  · split at h
    · rename_i hz
      exact ⟨by rw [Nat.eq_of_beq_eq_true hz]; simp [NX.v], h⟩
    · split at h
      · split at h
        · rename_i hb; exact ⟨by simpa [NX.v] using Nat.le_of_ble_eq_true hb, h⟩
        · exact h.elim
      · cases h with | mk h1 h2 => exact ⟨h1, h2⟩
  · cases h with | mk h1 h2 => exact ⟨h1, h2⟩
theorem inN_ok {i : IX} {n : NX} {K : Unit → Prop} (h : inN i n K) : 0 ≤ i.v ∧ i.v < (n.v : Int) ∧ K () := by
  unfold inN at h
  split at h
  · split at h
    · split at h
      · rename_i hb
        split at h
        · rename_i hc
          have h0 := of_decide_eq_true hb
          have h1 := Nat.le_of_ble_eq_true hc
          simp only [IX.v, NX.v]
          exact ⟨h0, by omega, h⟩
        · exact h.elim
      · exact h.elim
    · cases h with | mk h1 h2 => exact ⟨h1.1, h1.2, h2⟩
  · cases h with | mk h1 h2 => exact ⟨h1.1, h1.2, h2⟩
theorem brB_ok {b : BX} {K L : Unit → Prop} (h : brB b K L) : (b.v = true → K ()) ∧ (b.v = false → L ()) := by
  unfold brB at h
  split at h
  · simp [BX.v, h]
  · simp [BX.v, h]
  · cases h with | mk h1 h2 => exact ⟨h1, h2⟩

def PureOk (P : Program) (s : Sit) (x : Sem Next) (K : AV → Prop) : Prop := ∃ av v, (∀ w, x.run P w = .ok (.value v) w) ∧ VRel s av v ∧ K av
/-- of a value's reckoning, whatever the world -/
def ValOk (P : Program) (s : Sit) (x : Sem Value) (K : AV → Prop) : Prop := ∃ av v, (∀ w, x.run P w = .ok v w) ∧ VRel s av v ∧ K av
theorem ValOk.pure {P : Program} {s : Sit} {x : Sem Value} {K : AV → Prop} (h : ValOk P s x K) : PureOk P s (do Pure.pure (Next.value (← x))) K := by
  obtain ⟨av, v, h1, h2, h3⟩ := h
  exact ⟨av, v, fun w => by simp [h1 w], h2, h3⟩
theorem Gets.ok {P : Program} {s : Sit} {x : Sem Value} {K : AV → Prop} (h : Gets P x K) : ValOk P s x K :=
  let ⟨av, v, h1, h2, h3⟩ := h; ⟨av, v, h1, h2 s, h3⟩

theorem run_equalIn_bool {P : Program} {t : TypeId} (hu : P.underlying t = some .bool) (d : Nat) (a b : Bool) (w : World) : (Op.equalIn (d + 1) t (.bool a) (.bool b)).run P w = .ok (a == b) w := by
  simp [Op.equalIn, run_under hu]
theorem run_eql_bool {P : Program} {t : TypeId} (hu : P.underlying t = some .bool) (a b : Bool) (w : World) : (binOp .eql t (.bool a) (.bool b)).run P w = .ok (.bool (a == b)) w := by
  have h := run_equalIn_bool hu 9999 a b w
  simp only [binOp]
  rw [show Op.equal t (.bool a) (.bool b) = Op.equalIn (9999 + 1) t (.bool a) (.bool b) from rfl]
  simp only [Sem.run_bind, h, Result.andThen_ok]
  rfl
theorem run_neq_bool {P : Program} {t : TypeId} (hu : P.underlying t = some .bool) (a b : Bool) (w : World) : (binOp .neq t (.bool a) (.bool b)).run P w = .ok (.bool (!(a == b))) w := by
  have h := run_equalIn_bool hu 9999 a b w
  simp only [binOp]
  rw [show Op.equal t (.bool a) (.bool b) = Op.equalIn (9999 + 1) t (.bool a) (.bool b) from rfl]
  simp only [Sem.run_bind, h, Result.andThen_ok]
  rfl
theorem neg_run (P : Program) (k : IntKind) (x : Int) (w : World) : (Op.unary .neg (.int k x)).run P w = .ok (.int k (k.wrap (0 - x))) w := by
  simp [Op.unary, Op.intArith]
theorem not_run (P : Program) (k : IntKind) (x : Int) (w : World) : (Op.unary .xor (.int k x)).run P w = .ok (.int k (bitsI .xor k (match k.signed with | true => -1 | false => k.max) x)) w := by
  simp only [Op.unary]
  rw [bits_run P .xor (by simp)]
  cases k <;> rfl
section
variable {P : Program} {T : Tab} (hT : TabOk P T) {s : Sit} {st : St} {a : Act} {K : AV → Prop}
include hT
theorem partV_ok {t : Nat} {cs : List AV} {off : Nat} {u : Array Value} (h : partV T t cs off K) (hr : VRels s cs u.toList) : ValOk P s (Go.part t u off) K := by
  unfold partV ti at h
  split at h
  · rename_i d hd
    have hk := hT t d hd
    split at h
    · rename_i ha
      split at h
      · rename_i r hp
        have hp' := hr.part hp
        refine ⟨_, .agg (u.extract off (off + d.size)), fun w => ?_, ?_, h⟩
        · simp [Go.part, hk.isAgg, ha, hk.size]
        · simp only [VRel]
          refine ⟨_, rfl, ?_⟩
          rw [Array.toList_extract, List.extract_eq_take_drop, Nat.add_sub_cancel_left]
          exact hp'
      · exact h.elim
    · rename_i ha
      split at h
      · rename_i v hv
        obtain ⟨x, hx, hxr⟩ := hr.nth hv
        refine ⟨v, x, fun w => ?_, hxr, h⟩
        simp only [Array.getElem?_toList] at hx
        simp [Go.part, hk.isAgg, ha, hx]
      · exact h.elim
  · exact h.elim
theorem fieldAt_ok {t fi : Nat} {K : Nat → Nat → Prop} (h : fieldAt T t fi K) : ∃ fields f, P.underlying t = some (.struct fields) ∧ fields[fi]? = some f ∧ K f.offset f.type := by
  unfold fieldAt ti at h
  split at h
  · rename_i d hd
    obtain ⟨desc, hu, hk⟩ := (hT t d hd).under
    split at h
    · rename_i fs hf
      rw [hf] at hk
      obtain ⟨fields, rfl, h1, h2⟩ := hk
      split at h
      · rename_i p hp
        rw [nth_eq, ← h1, List.getElem?_map] at hp
        simp only [Array.getElem?_toList] at hp
        cases hfi : fields[fi]? with
        | none => rw [hfi] at hp; simp at hp
        | some f =>
          rw [hfi] at hp
          simp at hp
          subst hp
          exact ⟨fields, f, hu, hfi, h⟩
      · exact h.elim
    · exact h.elim
  · exact h.elim
theorem esz_ok {t : Nat} {K : Nat → Prop} (h : esz T t K) : ∃ d, T t = some d ∧ K d.size := by
  unfold esz ti at h
  split at h
  · exact ⟨_, ‹_›, h⟩
  · exact h.elim

theorem pick_ok {c : BX} {x y : AV} {u v : Value} (h : ePick c x y K) (hx : VRel s x u) (hy : VRel s y v) : ∃ av, VRel s av (if c.v = true then u else v) ∧ K av := by
  unfold ePick at h
  split at h
  · exact ⟨x, by simpa [BX.v] using hx, h⟩
  · exact ⟨y, by simpa [BX.v] using hy, h⟩
  · rename_i f
    have br : Br f (fun _ => K x) (fun _ => K y) → ∃ av, VRel s av (if (BX.t f).v = true then u else v) ∧ K av := by
      intro h
      cases h with
      | mk h1 h2 =>
        cases hf : f ()
        · exact ⟨y, by simpa [BX.v, hf] using hy, h2 hf⟩
        · exact ⟨x, by simpa [BX.v, hf] using hx, h1 hf⟩
    split at h
    · split at h
      · refine ⟨_, ?_, h⟩
        simp only [VRel] at hx hy ⊢
        subst hx; subst hy
        show (if f () = true then _ else _) = Value.bool (match f () with | true => _ | false => _)
        by_cases hf : f () = true
        · rw [if_pos hf, hf]
        · have hf' : f () = false := by simpa using hf
          rw [if_neg hf, hf']
      · exact br h
    · exact br h

theorem bin_ok {op : BinOp} {t : TypeId} {x y : AV} {xo yo : Operand} {u v : Value} (h : eBin T op t x y K) (hx : VRel s x u) (hy : VRel s y v) : ValOk P s (do eqGuard op t xo yo u v; binOp op t u v) K := by
  unfold eBin at h
  split at h
  · rename_i k n
    split at h
    · rename_i k' n'
      simp only [VRel] at hx hy
      subst hx; subst hy
      have go : ∀ K' : AV → Prop, Gets P (binOp op t (.int k n.v) (.int k' n'.v)) K' → ValOk P s (do eqGuard op t xo yo (.int k n.v) (.int k' n'.v); binOp op t (.int k n.v) (.int k' n'.v)) K' := by
        intro K' hg
        obtain ⟨av, z, h1, h2, h3⟩ := hg
        exact ⟨av, z, fun w => by simp [eqGuard_at_int, h1 w], h2 s, h3⟩
      split at h
      · exact go _ (eInt_gets t (fun h => absurd rfl h) h)
      · exact go _ (eInt_gets t (fun _ h => absurd rfl h) h)
      · split at h
        · rename_i hk
          exact go _ (eInt_gets t (fun _ _ => kEq_eq hk) h)
        · exact h.elim
    · exact h.elim
  · rename_i p
    split at h
    · rename_i q
      simp only [VRel] at hx hy
      subst hx; subst hy
      unfold ti at h
      split at h
      · rename_i d hd
        obtain ⟨desc, hu, hk⟩ := (hT t d hd).under
        split at h
        · rename_i hdk
          rw [hdk] at hk
          simp only [KOk] at hk
          subst hk
          split at h
          · refine ⟨_, .bool (bEq p q).v, fun w => ?_, by simp [VRel], h⟩
            simp only [eqGuard_at_bool, Sem.run_bind, Sem.run_pure, Result.andThen_ok, run_eql_bool hu, bEq_v]
          · refine ⟨_, .bool (bNot (bEq p q)).v, fun w => ?_, by simp [VRel], h⟩
            simp only [eqGuard_at_bool, Sem.run_bind, Sem.run_pure, Result.andThen_ok, run_neq_bool hu, bEq_v, bNot_v]
          · exact h.elim
        · exact h.elim
      · exact h.elim
    · exact h.elim
  · exact h.elim
theorem un_ok {op : UnOp} {x : AV} {u : Value} (h : eUn op x K) (hx : VRel s x u) : ValOk P s (Op.unary op u) K := by
  unfold eUn at h
  split at h
  · split at h
    · simp only [VRel] at hx; subst hx
      exact ⟨_, _, fun w => by simp [Op.unary]; rfl, by simp [VRel, bNot_v], h⟩
    · exact h.elim
  · split at h
    · rename_i k n
      simp only [VRel] at hx; subst hx
      exact (fit_gets h fun w => by rw [ix2_v]; exact neg_run P k _ w).ok
    · exact h.elim
  · split at h
    · rename_i k n
      simp only [VRel] at hx; subst hx
      exact (gets_int (fun w => by rw [ix2_v]; exact not_run P k _ w) h).ok
    · exact h.elim
  · exact h.elim
theorem conv_ok {sr ds : TypeId} {dd sd : TD} (hd : T ds = some dd) (hs : T sr = some sd) {k k' : IntKind} (hk : dd.k = .int k) {n : IX} (h : eConv k n K) : ValOk P s (convert sr ds (.int k' n.v)) K := by
  obtain ⟨desc, hu, hkd⟩ := (hT ds dd hd).under
  obtain ⟨sdesc, hsu, _⟩ := (hT sr sd hs).under
  rw [hk] at hkd
  simp only [KOk] at hkd
  subst hkd
  have hrun : ∀ w, (convert sr ds (.int k' n.v)).run P w = .ok (.int k (k.wrap n.v)) w := fun w => by
    simp only [convert, Sem.run_bind, run_under hu, run_under hsu, Result.andThen_ok]
    simp [Conv.intToInt]
  unfold eConv at h
  split at h
  · exact (gets_int (n := .l _) (by simpa [IX.v] using hrun) h).ok
  · exact (gets_int (n := .t _) (by simpa [IX.v] using hrun) h).ok
end
end Go.Sy
