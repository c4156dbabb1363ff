/- TopBlind: for every input the law returns true, and its arguments read afterwards as before: the contract of Bl19, joined to the given row. Conditions: none beyond the row's own. -/
import Derived.Test.YtlgmbpnlakjefaaBl19
import Derived.Test.YtlgmbpnlakjefaaSyO2
import Derived.Test.YtlgmbpnlakjefaaRows
import Derived.ProofKit
namespace Go.Proofs.Ytlgmbpnlakjefaa
open Go.Sy
open Go.ChangeShapes Go.WideShapes Go.ChangeAt Go.RowKit
set_option maxRecDepth 100000
set_option linter.unusedVariables false
theorem dwf_int {k : IntKind} {d : D} (h : DWf (.int k) d) : (Lit.int k d.int).wf = true ∧ d = .i d.int := by
  cases h with
  | int k n hn => exact ⟨hn, rfl⟩
theorem wf_u8 {n : Int} (h : (Lit.int .u8 n).wf = true) : 0 ≤ n ∧ n ≤ 255 := by
  have := bounds_u8 h; omega
theorem wf_u16 {n : Int} (h : (Lit.int .u16 n).wf = true) : 0 ≤ n ∧ n ≤ 65535 := by
  have := bounds_u16 h; omega
theorem wf_u32 {n : Int} (h : (Lit.int .u32 n).wf = true) : 0 ≤ n ∧ n < 4294967296 := by
  have := bounds_u32 h; omega
theorem wf_u64 {n : Int} (h : (Lit.int .u64 n).wf = true) : 0 ≤ n ∧ n < 18446744073709551616 := by
  have := bounds_u64 h; omega
theorem dsOk_wf {sig : List Kd} {ds : List D} (h : DsOk sig ds) {j : Nat} {k : IntKind} (hk : nth sig j = some (.int k)) : (Lit.int k (ds.getD j (.i 0)).int).wf = true := by
  have hj := nth_some_lt hk
  have : nth ds j = some (ds.getD j (.i 0)) := by rw [nth_eq, List.getD_eq_getElem?_getD, List.getElem?_eq_getElem (by rw [h.1]; exact hj)]; rfl
  exact (dwf_int (h.2 j _ _ hk this)).1
theorem dsOk_i {sig : List Kd} {ds : List D} (h : DsOk sig ds) {j : Nat} {k : IntKind} (hk : nth sig j = some (.int k)) : nth ds j = some (.i (ds.getD j (.i 0)).int) := by
  have hj := nth_some_lt hk
  have : nth ds j = some (ds.getD j (.i 0)) := by rw [nth_eq, List.getD_eq_getElem?_getD, List.getElem?_eq_getElem (by rw [h.1]; exact hj)]; rfl
  rw [← (dwf_int (h.2 j _ _ hk this)).2]; exact this
def keySig : List Kd := [.int .i64, .int .i64, .int .u16]
def dealSig : List Kd := List.replicate 47 (.int .u8) ++ List.replicate 31 (.int .u32)
def rawOf (ds : List D) (i : Nat) : RawK := if i < 4 then ⟨(ds.getD (3 * i) (.i 0)).int, (ds.getD (3 * i + 1) (.i 0)).int, (ds.getD (3 * i + 2) (.i 0)).int⟩ else ⟨0, 0, 0⟩
theorem rawOf_pad {ds : List D} (h : DsOk (catRep keySig 4) ds) (i : Nat) : 0 ≤ (rawOf ds i).pad ∧ (rawOf ds i).pad ≤ 65535 := by
  unfold rawOf
  split
  · refine wf_u16 (dsOk_wf h (j := 3 * i + 2) ?_)
    match i with
    | 0 => rfl
    | 1 => rfl
    | 2 => rfl
    | 3 => rfl
    | i + 4 => omega
  · exact ⟨by decide, by decide⟩
theorem rawOf_rows {ds : List D} (h : DsOk (catRep keySig 4) ds) : rowsD keySig.length 4 ds = keyRows (rawOf ds) := by
  have hl := h.1
  match ds, hl with
  | [d0, d1, d2, d3, d4, d5, d6, d7, d8, d9, d10, d11], _ =>
    have e0 := (dwf_int (h.2 0 _ d0 rfl rfl)).2
    have e1 := (dwf_int (h.2 1 _ d1 rfl rfl)).2
    have e2 := (dwf_int (h.2 2 _ d2 rfl rfl)).2
    have e3 := (dwf_int (h.2 3 _ d3 rfl rfl)).2
    have e4 := (dwf_int (h.2 4 _ d4 rfl rfl)).2
    have e5 := (dwf_int (h.2 5 _ d5 rfl rfl)).2
    have e6 := (dwf_int (h.2 6 _ d6 rfl rfl)).2
    have e7 := (dwf_int (h.2 7 _ d7 rfl rfl)).2
    have e8 := (dwf_int (h.2 8 _ d8 rfl rfl)).2
    have e9 := (dwf_int (h.2 9 _ d9 rfl rfl)).2
    have e10 := (dwf_int (h.2 10 _ d10 rfl rfl)).2
    have e11 := (dwf_int (h.2 11 _ d11 rfl rfl)).2
    generalize d0.int = n0 at e0
    generalize d1.int = n1 at e1
    generalize d2.int = n2 at e2
    generalize d3.int = n3 at e3
    generalize d4.int = n4 at e4
    generalize d5.int = n5 at e5
    generalize d6.int = n6 at e6
    generalize d7.int = n7 at e7
    generalize d8.int = n8 at e8
    generalize d9.int = n9 at e9
    generalize d10.int = n10 at e10
    generalize d11.int = n11 at e11
    subst e0 e1 e2 e3 e4 e5 e6 e7 e8 e9 e10 e11
    rfl
def fieldOf (ds : List D) (off n : Nat) (i : Nat) : Int := if i < n then (ds.getD (off + i) (.i 0)).int else 0
def dealOf (ds : List D) : DealX := ⟨fieldOf ds 0 15, fieldOf ds 15 15, fieldOf ds 30 15, (ds.getD 45 (.i 0)).int, (ds.getD 46 (.i 0)).int, fieldOf ds 47 31⟩
theorem dealSig_u8 {j : Nat} (h : j < 47) : nth dealSig j = some (.int .u8) := by
  rw [nth_eq, dealSig, List.getElem?_append_left (by simpa using h), List.getElem?_replicate, if_pos h]
theorem dealSig_u32 {j : Nat} (h : j < 31) : nth dealSig (47 + j) = some (.int .u32) := by
  rw [nth_eq, dealSig, List.getElem?_append_right (by simp), List.length_replicate, Nat.add_sub_cancel_left, List.getElem?_replicate, if_pos h]
theorem dealOf_got {ds : List D} (h : DsOk dealSig ds) : (dealOf ds).got := by
  have f8 : ∀ off i, off + 15 ≤ 47 → byte (fieldOf ds off 15 i) := fun off i ho => by
    unfold fieldOf
    split
    · exact wf_u8 (dsOk_wf h (dealSig_u8 (by omega)))
    · exact ⟨by decide, by decide⟩
  refine ⟨⟨fun i => f8 _ i (by decide), fun i => f8 _ i (by decide), fun i => f8 _ i (by decide), wf_u8 (dsOk_wf h (dealSig_u8 (by decide))), wf_u8 (dsOk_wf h (dealSig_u8 (by decide)))⟩, fun i => ?_⟩
  show 0 ≤ fieldOf ds 47 31 i ∧ fieldOf ds 47 31 i < 4294967296
  unfold fieldOf
  split
  · exact wf_u32 (dsOk_wf h (dealSig_u32 (by assumption)))
  · exact ⟨by decide, by decide⟩
theorem dealOf_cells (ds : List D) : cellsOf (fun _ => ds) dealSig 0 = (dealOf ds).cells := by kernel_rfl

theorem own3 : ownKnob Try.prog.godebug = none := by kernel_rfl
theorem laidOut3 : laidOutB Try.prog = true := by kernel_rfl
theorem kds26 : kdsT Try.prog 9 26 = some (catRep keySig 4) := by kernel_rfl
theorem kds31 : kdsT Try.prog 9 31 = some dealSig := by kernel_rfl
theorem lifted3 (os : Os) (started : os.Started) (H : Type) (enc : TypeId × Value → H) :
    ReturnsInHanded {} Try.checked os 3 .any (Rows.topBlindSpec.pre6 enc Try.prog Try.f3 Rows.topBlindRow.domain false) (Rows.topBlindSpec.post enc Try.prog Try.f3 false true false false) := by
  refine returnsInHanded_of_change (C := Try.checked) own3 started (by kernel_rfl) Try.func3
    (ChangeSpec.witness6 (enc := enc) (C := Try.checked) false ⟨#[], #[.int .u64 0, .int .u64 0, .agg #[.int .i64 0, .int .i64 0, .int .u16 0, .int .i64 0, .int .i64 0, .int .u16 0, .int .i64 0, .int .i64 0, .int .u16 0, .int .i64 0, .int .i64 0, .int .u16 0],
      .agg #[.int .i64 0, .int .i64 0, .int .u16 0, .int .i64 0, .int .i64 0, .int .u16 0, .int .i64 0, .int .i64 0, .int .u16 0, .int .i64 0, .int .i64 0, .int .u16 0], .agg (List.replicate 47 (Value.int .u8 0) ++ List.replicate 31 (Value.int .u32 0)).toArray], []⟩ 8 (by kernel_rfl) (by kernel_rfl) (by kernel_rfl) (by kernel_rfl)) ?_
  intro W base args ds gs before hval0 hW hcnd _
  have hval : ∀ (j : Nat) t v, Try.f3.params[j]? = some t → args[j]? = some v → Value.okWide Try.prog W .any base t v := hval0
  have hW' := hW
  obtain ⟨p, q, hA0, hV, rfl, hfz, hnd⟩ := hW
  have hA : DataW.TrodAll enc Try.prog W 0 (fun _ => true) true Try.f3.params.toList args.toList ds p := hA0
  have hlt := hW'.lt
  have hA2 := hA
  rw [Try.params3] at hA hval
  obtain ⟨v0, vs0, d0, ds0, p0, q0, hargs, rfl, rfl, h0, r0⟩ := trodAll_cons hA
  obtain ⟨v1, vs1, d1, ds1, p1, q1, rfl, rfl, rfl, h1, r1⟩ := trodAll_cons r0
  obtain ⟨v2, vs2, d2, ds2, p2, q2, rfl, rfl, rfl, h2, r2⟩ := trodAll_cons r1
  obtain ⟨v3, vs3, d3, ds3, p3, q3, rfl, rfl, rfl, h3, r3⟩ := trodAll_cons r2
  obtain ⟨v4, vs4, d4, ds4, p4, q4, rfl, rfl, rfl, h4, r4⟩ := trodAll_cons r3
  obtain ⟨rfl, rfl, rfl⟩ := trodAll_nil r4
  obtain rfl : args = #[v0, v1, v2, v3, v4] := by cases args; simp_all
  obtain ⟨rfl, rfl⟩ := trodVars_none hV
  obtain ⟨a, wa, ra⟩ := arg_int Try.underlying22 (hval 0 22 v0 rfl rfl) h0
  obtain ⟨b, wb, rb⟩ := arg_int Try.underlying22 (hval 1 22 v1 rfl rfl) h1
  obtain ⟨o, wo, ro⟩ := arg_arr (sig := keySig) (by decide) kds26 (by kernel_rfl) (hval 2 26 v2 rfl rfl) h2
  obtain ⟨y, wy, ry⟩ := arg_arr (sig := keySig) (by decide) kds26 (by kernel_rfl) (hval 3 26 v3 rfl rfl) h3
  obtain ⟨dd, wd, rd⟩ := arg_agg kds31 (by kernel_rfl) (hval 4 31 v4 rfl rfl) h4
  rw [rawOf_rows wo] at ro
  rw [rawOf_rows wy] at ry
  rw [dealOf_cells dd] at rd
  have ba := wf_u64 wa
  have bb := wf_u64 wb
  obtain ⟨na, rfl⟩ : ∃ n : Nat, a = ofN n := ⟨a.toNat, by simp only [ofN]; omega⟩
  obtain ⟨nb, rfl⟩ : ∃ n : Nat, b = ofN n := ⟨b.toNat, by simp only [ofN]; omega⟩
  have hv : VRels (sit0 W) (BlindX.args ⟨na, nb, rawOf o, rawOf y, dealOf dd⟩) [v0, v1, v2, v3, v4] := by
    simp only [BlindX.args, VRels]
    exact ⟨_, _, rfl, ra, _, _, rfl, rb, _, _, rfl, ro, _, _, rfl, ry, _, _, rfl, rd, rfl⟩
  have hc : cBlind (BlindX.args ⟨na, nb, rawOf o, rawOf y, dealOf dd⟩) [] isTrue :=
    ⟨⟨na, nb, rawOf o, rawOf y, dealOf dd⟩, ⟨show na < 18446744073709551616 by simp only [ofN] at ba; omega, show nb < 18446744073709551616 by simp only [ofN] at bb; omega, rawOf_pad wo, rawOf_pad wy, dealOf_got wd⟩, fun _ _ h => h, trivial, isTrue_t rfl⟩
  clear hA0 hval0
  refine (s3.law hv hc).mono fun e W' ⟨he, hold⟩ => ?_
  subst he
  refine ⟨_, rfl, _, _, _, [], _, [], hW', trodAll_mk1 (shut_bool Try.underlying4 _), hold.trodAll laidOut3 (by kernel_rfl) hA2 (fun x hx => hlt x (by simpa using hx)), rfl, hold.frame _, fun h => by cases h⟩
theorem over3 : Rows.topBlindRow.holds Try.pinned (OpenSpec.ofChange Rows.topBlindSpec) :=
  OpenClaim.holds_of_wide 3 Try.f3 rfl rfl rfl rfl rfl rfl rfl ⟨rfl, rfl, rfl, rfl, rfl⟩ rfl rfl rfl rfl rfl (by kernel_rfl) Try.func3 (by kernel_rfl)
    (of_decide_eq_true (by kernel_rfl)) (by unfold Func.isWrapper; first | (rw [if_pos (by decide +kernel)]; kernel_rfl) | (rw [if_neg (by decide +kernel)]; exact ⟨rfl, rfl⟩))
    (fun os started H enc _ => lifted3 os started H enc)
/-- The statement TopBlind. -/
theorem topBlind_proved : Rows.TopBlindSaid := over3
#print axioms topBlind_proved
end Go.Proofs.Ytlgmbpnlakjefaa
