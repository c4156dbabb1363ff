/- Put together by a program of this work out of its texts KpL. -/
import Derived.Test.YtlgmbpnlakjefaaDoorM20
section
/- Contracts: the law TopKept itself: the words that come back. -/
namespace Go.Proofs.YtlgmbpnlakjefaaDoor
open Go.Sy
set_option maxRecDepth 100000
set_option maxHeartbeats 4000000
set_option linter.unusedSimpArgs false
set_option linter.unusedVariables false
/-- lists of small numbers, as data in rows -/
def rowsC (C : List (List Nat)) : List (List D) := C.map fun c => [.s (nums c)]
theorem rowsC_length (C : List (List Nat)) : (rowsC C).length = C.length := by simp [rowsC]
theorem rowsC_get {C : List (List Nat)} {i : Nat} (h : i < C.length) : (((rowsC C).getD (ofN i).toNat []).getD 0 (.i 0)).rows = nums (C.getD i []) := by
  rw [toNat_ofN]
  simp [rowsC, List.getD_eq_getElem?_getD, h, D.rows]
theorem idxC {C : List (List Nat)} {i : Nat} (h : i < C.length) : 0 ≤ ofN (ofN i).toNat ∧ ofN (ofN i).toNat < ((NX.t fun _ => (rowsC C).length).v : Int) := by rw [toNat_ofN, rowsC_length]; exact idx1 h
/-- a word, some of its bits turned -/
def flipTo (w : Nat) (c : List Nat) : Nat → Nat
  | 0 => w
  | j + 1 => flipTo w c j ^^^ 2 ^ (c.getD j 0 % 15)
theorem flip_lt {w : Nat} (hw : w < 32768) (c : List Nat) : ∀ j, flipTo w c j < 32768
  | 0 => hw
  | j + 1 => Nat.xor_lt_two_pow (n := 15) (flip_lt hw c j) (Nat.pow_lt_pow_right (by decide) (Nat.mod_lt _ (by decide)))
structure KeptX where
  n : Nat
  T : List Nat
  M : List Nat
  C : List (List Nat)
  k : RawK
def KeptX.args (x : KeptX) : List AV := [.int .u8 (.t fun _ => ofN x.n), .sl 0 (.l 0) (.l 0) 1 (.t fun _ => x.T.length) (.t fun _ => x.T.length) false, .sl 1 (.l 0) (.l 0) 1 (.t fun _ => x.M.length) (.t fun _ => x.M.length) false, .sl 2 (.l 0) (.l 0) 1 (.t fun _ => x.C.length) (.t fun _ => x.C.length) false, .agg [.int .i64 (.t fun _ => x.k.n), .int .i64 (.t fun _ => x.k.perm), .int .u16 (.t fun _ => x.k.pad)]]
def KeptX.heap (x : KeptX) : Heap := [some ⟨false, .rows [.int .u16] fun _ => nums x.T⟩, some ⟨false, .rows [.int .u16] fun _ => nums x.M⟩, some ⟨false, .rows [.sl [.int .u8]] fun _ => rowsC x.C⟩]
def KeptX.got (x : KeptX) : Prop := x.n < 256 ∧ Below x.T 65536 ∧ Below x.M 65536 ∧ (∀ i, i < x.C.length → Below (x.C.getD i []) 256) ∧ 0 ≤ x.k.pad ∧ x.k.pad ≤ 65535
def simF (T : List Nat) (C : List (List Nat)) (i : Nat) : Nat := flipTo (T.getD i 0) (C.getD i []) (C.getD i []).length
def farF (T : List Nat) (C : List (List Nat)) (i : Nat) : Nat := popN (simF T C i ^^^ T.getD i 0) 16
def sumF (T : List Nat) (C : List (List Nat)) : Nat → Nat
  | 0 => 0
  | i + 1 => sumF T C i + farF T C i
def nearB' (t : Nat) (T : List Nat) (C : List (List Nat)) : Nat → Bool
  | 0 => true
  | i + 1 => nearB' t T C i && decide (farF T C i ≤ t)
theorem nearB'_0 (t : Nat) (T : List Nat) (C : List (List Nat)) : nearB' t T C 0 = true := rfl
theorem nearB'_s (t : Nat) (T : List Nat) (C : List (List Nat)) (i : Nat) : nearB' t T C (i + 1) = (nearB' t T C i && decide (farF T C i ≤ t)) := rfl
theorem sumF_0 (T : List Nat) (C : List (List Nat)) : sumF T C 0 = 0 := rfl
theorem sumF_s (T : List Nat) (C : List (List Nat)) (i : Nat) : sumF T C (i + 1) = sumF T C i + farF T C i := rfl
theorem flip_s (w : Nat) (c : List Nat) (j : Nat) : flipTo w c (j + 1) = flipTo w c j ^^^ 2 ^ (c.getD j 0 % 15) := rfl
theorem skL_length (n : Nat) (A : List Nat) : (skL n A).length = A.length := listF_length _ _
theorem comL_length (n : Nat) (A M : List Nat) : (comL n A M).length = A.length := listF_length _ _
theorem skL_eq (n : Nat) (A : List Nat) : skL n A = listF A.length (SkX.f ⟨n, A⟩) := rfl
theorem comL_eq (n : Nat) (A M : List Nat) : comL n A M = listF A.length (ComX.f ⟨n, A, M, false⟩) := rfl
theorem farSum_0 (A B : List Nat) : farSum A B 0 = 0 := rfl
theorem farSum_s (A B : List Nat) (i : Nat) : farSum A B (i + 1) = farSum A B i + farI A B i := rfl
theorem flip_z (w : Nat) (c : List Nat) : flipTo w c 0 = w := rfl
theorem show_hide {k : KeyX} (hk : k.ok) (h15 : k.n = 15) {x : Nat} (hx : x < 32768) : showI k (ofN (hideN k x)) = ofN x := by
  have hl := hideN_lt hk x
  rw [h15] at hl
  have hi := inv_ok hk
  show hideI (invI k) (ofN (hideN k x)) = ofN x
  rw [hideI_eq hi (Nat.lt_of_lt_of_le hl (by decide))]
  congr 1
  apply Nat.eq_of_testBit_eq
  intro i
  by_cases h : i < 15
  · have hin : i < k.n := by omega
    have hin2 : i < (invI k).n := hin
    rw [hideN_bit _ hin2, invI_sig hk hin, hideN_bit _ (tau_lt hk hin), sig_tau hk hin]
    have hpb : (invI k).pad.toNat.testBit i = k.pad.toNat.testBit (tau k i) := by
      rw [invI_pad hk, toNat_ofN, wN_bit]; simp [hin]
    rw [hpb]
    cases x.testBit i <;> cases k.pad.toNat.testBit (tau k i) <;> rfl
  · have h1 := hideN_lt hi (hideN k x)
    have h2 : (invI k).n = 15 := h15
    rw [h2] at h1
    rw [Nat.testBit_lt_two_pow (Nat.lt_of_lt_of_le h1 (Nat.pow_le_pow_right (by decide) (by omega))), Nat.testBit_lt_two_pow (Nat.lt_of_lt_of_le hx (show 2 ^ 15 ≤ 2 ^ i from Nat.pow_le_pow_right (by decide) (by omega)))]
theorem flip_0 (w : Nat) : flipTo w [] ([] : List Nat).length = w := rfl
theorem simF_e (T : List Nat) (C : List (List Nat)) (i : Nat) : simF T C i = flipTo (T.getD i 0) (C.getD i []) (C.getD i []).length := rfl
theorem farF_e (T : List Nat) (C : List (List Nat)) (i : Nat) : farF T C i = popN (simF T C i ^^^ T.getD i 0) 16 := rfl
theorem farF_le (T : List Nat) (C : List (List Nat)) (i : Nat) : farF T C i ≤ 16 := popN_le _ 16
theorem rem15 (x : Nat) : aop .rem (ofN x) 15 = ofN (x % 15) := by
  rw [aop_rem]
  show ((x : Int)).tmod 15 = _
  rw [Int.tmod_eq_emod_of_nonneg (Int.natCast_nonneg _)]
  simp only [ofN]; omega
theorem sumF_le (T : List Nat) (C : List (List Nat)) : ∀ i, sumF T C i ≤ 16 * i
  | 0 => Nat.le_refl _
  | i + 1 => by
    have h1 := sumF_le T C i
    have h2 : farF T C i ≤ 16 := popN_le _ 16
    simp only [sumF]; omega
theorem nearB'_iff {t : Nat} {T : List Nat} {C : List (List Nat)} : ∀ {n : Nat}, nearB' t T C n = true ↔ ∀ i, i < n → farF T C i ≤ t
  | 0 => ⟨fun _ i hi => by omega, fun _ => rfl⟩
  | n + 1 => by
    simp only [nearB', Bool.and_eq_true, decide_eq_true_eq, nearB'_iff (n := n)]
    constructor
    · intro ⟨h1, h2⟩ i hi
      rcases Nat.lt_or_ge i n with h | h
      · exact h1 i h
      · rw [show i = n by omega]; exact h2
    · intro h
      exact ⟨fun i hi => h i (by omega), h n (by omega)⟩
theorem f19 : EnvOk Tryd.prog (env [(4, cAlive), (5, cAliveKept), (6, cKindQ), (7, cTmpl), (8, cValid), (9, cIsMsg), (10, cFar), (11, cT), (12, cHideL), (13, cSketch), (14, cCommit), (15, cRecover), (16, cOpen), (17, cSame), (18, cShow)]) :=
  envOk_cons (envOk_cons (envOk_cons (envOk_cons (envOk_cons (envOk_cons (envOk_cons (envOk_cons (envOk_cons (envOk_cons (envOk_cons (envOk_cons (envOk_cons (envOk_cons (envOk_cons envOk_nil s18 k18.callable) s17 k17.callable) s16 k16.callable) s15 k15.callable) s14 k14.callable) s13 k13.callable) s12 k12.callable) s11 k11.callable) s10 k10.callable) s9 k9.callable) s8 k8.callable) s7 k7.callable) s6 k6.callable) s5 k5.callable) s4 k4.callable
def cKept : Con := con KeptX.args KeptX.heap KeptX.got (fun x K => K (.bool (.t fun _ => true)) x.heap)
attribute [local irreducible] restL errN codeN decN tagTo hideN hideI showI popN flipTo simF farF sumF nearB' validB skL comL farSum aop
theorem s3 : Sound Tryd.prog 3 cKept := by
  refine k3.con tabOk f19 mixed o3 fun x K hg h2 => ?_
  obtain ⟨n, T, M, C, k⟩ := x
  obtain ⟨kn, perm, pad⟩ := k
  have hn : n < 256 := hg.1
  have hT : Below T 65536 := hg.2.1
  have hM : Below M 65536 := hg.2.2.1
  have hC : ∀ i, i < C.length → Below (C.getD i []) 256 := hg.2.2.2.1
  have hp : 0 ≤ pad ∧ pad ≤ 65535 := hg.2.2.2.2
  cbv
  refine ⟨(), trivial, Ent.of_wvs ?_, trivial, ?_⟩
  · cbv
    repeat' first | apply And.intro | exact trivial | exact SameS.mk rfl | exact SameI.mk (by with_reducible rfl) | exact SameN.mk (by with_reducible rfl) | exact SameL.mk (by with_reducible rfl) | exact SameB.mk (by with_reducible rfl) | exact LeN.mk (by with_reducible exact Nat.le_refl _) | apply SameI.mk | apply SameN.mk | apply SameL.mk | apply SameB.mk | apply LeN.mk
    all_goals first | rfl | exact (ofN_succ _).symm | (simp only [toNat_ofN, NX.v, IX.v, Nat.le_refl]; done) | ((try simp only [toNat_ofN, NX.v, IX.v, nadd, nsub]); omega) | skip
  cbv
  refine Br.t (fun c => ?_) (fun c => ?_)
  rotate_left
  · cases c
  cbv
  refine ⟨(), trivial, Ent.of_wvs ?_, trivial, ?_⟩
  · cbv
    repeat' first | apply And.intro | exact trivial | exact SameS.mk rfl | exact SameI.mk (by with_reducible rfl) | exact SameN.mk (by with_reducible rfl) | exact SameL.mk (by with_reducible rfl) | exact SameB.mk (by with_reducible rfl) | exact LeN.mk (by with_reducible exact Nat.le_refl _) | apply SameI.mk | apply SameN.mk | apply SameL.mk | apply SameB.mk | apply LeN.mk
    all_goals first | rfl | exact (ofN_succ _).symm | (simp only [toNat_ofN, NX.v, IX.v, Nat.le_refl]; done) | ((try simp only [toNat_ofN, NX.v, IX.v, nadd, nsub]); omega) | skip
  cbv
  refine ⟨n, hn, Ent.of_wvs ?_, trivial, ?_⟩
  · cbv
    repeat' first | apply And.intro | exact trivial | exact SameS.mk rfl | exact SameI.mk (by with_reducible rfl) | exact SameN.mk (by with_reducible rfl) | exact SameL.mk (by with_reducible rfl) | exact SameB.mk (by with_reducible rfl) | exact LeN.mk (by with_reducible exact Nat.le_refl _) | apply SameI.mk | apply SameN.mk | apply SameL.mk | apply SameB.mk | apply LeN.mk
    all_goals first | rfl | exact (ofN_succ _).symm | (simp only [toNat_ofN, NX.v, IX.v, Nat.le_refl]; done) | ((try simp only [toNat_ofN, NX.v, IX.v, nadd, nsub]); omega) | skip
  intro b hb
  cbv
  refine Br.mk (fun c => ?_) (fun c => ?_)
  · cbv
    refine .mk _ _ h2 ?_ ?_
    all_goals cbv
    all_goals repeat' first | apply And.intro | exact trivial | exact SameS.mk rfl | exact SameI.mk (by with_reducible rfl) | exact SameN.mk (by with_reducible rfl) | exact SameL.mk (by with_reducible rfl) | exact SameB.mk (by with_reducible rfl) | exact LeN.mk (by with_reducible exact Nat.le_refl _) | apply SameI.mk | apply SameN.mk | apply SameL.mk | apply SameB.mk | apply LeN.mk
    all_goals first | rfl | exact (ofN_succ _).symm | (simp only [toNat_ofN, NX.v, IX.v, Nat.le_refl]; done) | ((try simp only [toNat_ofN, NX.v, IX.v, nadd, nsub]); omega) | skip
  have hb1 : b = true := by have : bnot b = false := c; cases b; cases this; rfl
  have hk : Kind3 n := hb.1 hb1
  cbv
  refine ⟨⟨T, false⟩, trivial, Ent.of_wvs ?_, ?_, ?_⟩
  · cbv
    repeat' first | apply And.intro | exact trivial | exact SameS.mk rfl | exact SameI.mk (by with_reducible rfl) | exact SameN.mk (by with_reducible rfl) | exact SameL.mk (by with_reducible rfl) | exact SameB.mk (by with_reducible rfl) | exact LeN.mk (by with_reducible exact Nat.le_refl _) | apply SameI.mk | apply SameN.mk | apply SameL.mk | apply SameB.mk | apply LeN.mk
    all_goals first | rfl | exact (ofN_succ _).symm | (simp only [toNat_ofN, NX.v, IX.v, Nat.le_refl]; done) | ((try simp only [toNat_ofN, NX.v, IX.v, nadd, nsub]); omega) | skip
  · cbv
    repeat' first | apply And.intro | exact trivial | exact SameS.mk rfl | exact SameI.mk (by with_reducible rfl) | exact SameN.mk (by with_reducible rfl) | exact SameL.mk (by with_reducible rfl) | exact SameB.mk (by with_reducible rfl) | exact LeN.mk (by with_reducible exact Nat.le_refl _) | apply SameI.mk | apply SameN.mk | apply SameL.mk | apply SameB.mk | apply LeN.mk
    all_goals first | rfl | exact (ofN_succ _).symm | (simp only [toNat_ofN, NX.v, IX.v, Nat.le_refl]; done) | ((try simp only [toNat_ofN, NX.v, IX.v, nadd, nsub]); omega) | skip
  intro b2 hb2
  cbv
  refine Br.mk (fun c => ?_) (fun c => ?_)
  · cbv
    refine .mk _ _ h2 ?_ ?_
    all_goals cbv
    all_goals repeat' first | apply And.intro | exact trivial | exact SameS.mk rfl | exact SameI.mk (by with_reducible rfl) | exact SameN.mk (by with_reducible rfl) | exact SameL.mk (by with_reducible rfl) | exact SameB.mk (by with_reducible rfl) | exact LeN.mk (by with_reducible exact Nat.le_refl _) | apply SameI.mk | apply SameN.mk | apply SameL.mk | apply SameB.mk | apply LeN.mk
    all_goals first | rfl | exact (ofN_succ _).symm | (simp only [toNat_ofN, NX.v, IX.v, Nat.le_refl]; done) | ((try simp only [toNat_ofN, NX.v, IX.v, nadd, nsub]); omega) | skip
  have hb21 : b2 = true := by have : bnot b2 = false := c; cases b2; cases this; rfl
  have htm := hb2.1 hb21
  have hl1 : 1 ≤ T.length := htm.1
  have hl4 : T.length ≤ 4 := htm.2.1
  have hT15 : Below T 32768 := htm.2.2
  cbv
  refine Br.mk (fun c => ?_) (fun c => ?_)
  · cbv
    refine .mk _ _ h2 ?_ ?_
    all_goals cbv
    all_goals repeat' first | apply And.intro | exact trivial | exact SameS.mk rfl | exact SameI.mk (by with_reducible rfl) | exact SameN.mk (by with_reducible rfl) | exact SameL.mk (by with_reducible rfl) | exact SameB.mk (by with_reducible rfl) | exact LeN.mk (by with_reducible exact Nat.le_refl _) | apply SameI.mk | apply SameN.mk | apply SameL.mk | apply SameB.mk | apply LeN.mk
    all_goals first | rfl | exact (ofN_succ _).symm | (simp only [toNat_ofN, NX.v, IX.v, Nat.le_refl]; done) | ((try simp only [toNat_ofN, NX.v, IX.v, nadd, nsub]); omega) | skip
  have hml : M.length = T.length := ofN_inj (ne_f.1 c)
  cbv
  refine ⟨(kn, perm, pad), hp, Ent.of_wvs ?_, trivial, ?_⟩
  · cbv
    repeat' first | apply And.intro | exact trivial | exact SameS.mk rfl | exact SameI.mk (by with_reducible rfl) | exact SameN.mk (by with_reducible rfl) | exact SameL.mk (by with_reducible rfl) | exact SameB.mk (by with_reducible rfl) | exact LeN.mk (by with_reducible exact Nat.le_refl _) | apply SameI.mk | apply SameN.mk | apply SameL.mk | apply SameB.mk | apply LeN.mk
    all_goals first | rfl | exact (ofN_succ _).symm | (simp only [toNat_ofN, NX.v, IX.v, Nat.le_refl]; done) | ((try simp only [toNat_ofN, NX.v, IX.v, nadd, nsub]); omega) | skip
  cbv
  refine Br.mk (fun c => ?_) (fun c => ?_)
  · cbv
    refine .mk _ _ h2 ?_ ?_
    all_goals cbv
    all_goals repeat' first | apply And.intro | exact trivial | exact SameS.mk rfl | exact SameI.mk (by with_reducible rfl) | exact SameN.mk (by with_reducible rfl) | exact SameL.mk (by with_reducible rfl) | exact SameB.mk (by with_reducible rfl) | exact LeN.mk (by with_reducible exact Nat.le_refl _) | apply SameI.mk | apply SameN.mk | apply SameL.mk | apply SameB.mk | apply LeN.mk
    all_goals first | rfl | exact (ofN_succ _).symm | (simp only [toNat_ofN, NX.v, IX.v, Nat.le_refl]; done) | ((try simp only [toNat_ofN, NX.v, IX.v, nadd, nsub]); omega) | skip
  have hval : validB kn perm pad = true := bnot_f.1 c
  cbv
  refine Br.mk (fun c => ?_) (fun c => ?_)
  · cbv
    refine .mk _ _ h2 ?_ ?_
    all_goals cbv
    all_goals repeat' first | apply And.intro | exact trivial | exact SameS.mk rfl | exact SameI.mk (by with_reducible rfl) | exact SameN.mk (by with_reducible rfl) | exact SameL.mk (by with_reducible rfl) | exact SameB.mk (by with_reducible rfl) | exact LeN.mk (by with_reducible exact Nat.le_refl _) | apply SameI.mk | apply SameN.mk | apply SameL.mk | apply SameB.mk | apply LeN.mk
    all_goals first | rfl | exact (ofN_succ _).symm | (simp only [toNat_ofN, NX.v, IX.v, Nat.le_refl]; done) | ((try simp only [toNat_ofN, NX.v, IX.v, nadd, nsub]); omega) | skip
  have hkn : kn = 15 := ne_f.1 c
  have hkey : KeyX.ok ⟨15, perm, pad⟩ := valid_key hval hkn hp.1
  have q15 : kn = ofN 15 := hkn
  cbv
  refine Br.f (fun c => ?_) (fun c => ?_)
  · cases c
  cbv
  refine loop_invN [.slot 14 [.int .u16]] [0, 1, 2, 3, 9, 11, 12, 13, 14, 73, 74, 75] (fun (i : Nat) => i ≤ T.length ∧ ∀ j, j < i → M.getD j 0 < 2 ^ kdN n)
    (fun i => ⟨[.int .u8 (.t fun _ => ofN n), .sl 0 (.l 0) (.l 0) 1 (.t fun _ => T.length) (.t fun _ => T.length) false, .sl 1 (.l 0) (.l 0) 1 (.t fun _ => M.length) (.t fun _ => M.length) false, .sl 2 (.l 0) (.l 0) 1 (.t fun _ => C.length) (.t fun _ => C.length) false, .undef, .undef, .undef, .undef, .undef, .ptr 3 (.l 0) (.l 0), .undef, .bool (.t fun _ => true), .bool (.t fun _ => nearB' (tN n) T C i), .int .i64 (.t fun _ => ofN (sumF T C i)), .sl 4 (.l 0) (.l 0) 1 (.t fun _ => i) (.t fun _ => i) false, .undef, .undef, .undef, .undef, .undef, .undef, .undef, .undef, .undef, .undef, .undef, .undef, .undef, .undef, .undef, .undef, .undef, .undef, .undef, .undef, .undef, .undef, .undef, .undef, .undef, .undef, .undef, .undef, .undef, .undef, .undef, .undef, .undef, .undef, .undef, .undef, .undef, .undef, .undef, .undef, .undef, .undef, .undef, .undef, .undef, .undef, .undef, .undef, .undef, .undef, .undef, .undef, .undef, .undef, .undef, .undef, .undef, .undef, .sl 0 (.l 0) (.l 0) 1 (.t fun _ => T.length) (.t fun _ => T.length) false, .int .i64 (.t fun _ => ofN T.length), .int .i64 (.t fun _ => ofN i), .undef, .undef, .undef, .undef, .undef, .undef, .undef, .undef, .undef, .undef, .undef, .undef, .undef, .undef, .undef, .undef, .undef, .undef, .undef, .undef, .undef, .undef, .undef, .undef, .undef, .undef, .undef, .undef, .undef, .undef, .undef, .undef, .undef, .undef, .undef, .undef, .undef, .undef, .undef, .undef, .undef, .undef, .undef, .undef, .undef, .undef, .undef, .undef, .undef, .undef, .undef, .undef, .undef, .undef, .undef, .undef, .undef, .undef, .undef, .undef, .undef, .undef, .undef, .undef, .undef, .undef, .undef, .undef, .undef, .undef, .undef, .undef, .undef, .undef, .undef, .undef, .undef, .undef, .undef, .undef, .undef, .undef, .undef, .undef, .undef, .undef, .undef, .undef, .undef, .undef, .undef, .undef, .undef, .undef, .undef, .undef, .undef, .undef, .undef, .undef, .undef, .undef, .undef, .undef, .undef, .undef, .undef, .undef, .undef, .undef, .undef, .undef, .undef, .undef, .undef, .undef, .undef, .undef, .undef, .undef, .undef, .undef, .undef, .undef, .undef, .undef, .undef, .undef, .undef, .undef, .undef, .undef, .undef, .undef, .undef, .undef, .undef, .undef, .undef, .undef, .undef, .undef, .undef, .undef, .undef, .undef, .undef, .undef, .undef, .undef, .undef, .undef, .undef, .undef, .undef, .undef, .undef, .undef, .undef, .undef, .undef, .undef, .undef, .undef, .undef, .undef, .undef, .undef, .undef, .undef, .undef, .undef, .undef, .undef, .undef, .undef, .undef, .undef, .undef, .undef, .undef, .undef, .undef, .undef, .undef, .undef, .undef],
      [some ⟨false, .rows [.int .u16] fun _ => nums T⟩, some ⟨false, .rows [.int .u16] fun _ => nums M⟩, some ⟨false, .rows [.sl [.int .u8]] fun _ => rowsC C⟩, some ⟨true, .cells [.int .i64 (.t fun _ => ofN 15), .int .i64 (.t fun _ => perm), .int .u16 (.t fun _ => pad)]⟩, some ⟨true, .rows [.int .u16] fun _ => nums (listF i (simF T C))⟩]⟩) (fun i => T.length - i) 0 ⟨Nat.zero_le _, fun j h => absurd h (Nat.not_lt_zero j)⟩ ?_ ?_
  · cbv
    repeat' first | apply And.intro | exact trivial | exact SameS.mk rfl | exact SameI.mk (by with_reducible rfl) | exact SameN.mk (by with_reducible rfl) | exact SameL.mk (by with_reducible rfl) | exact SameB.mk (by with_reducible rfl) | exact LeN.mk (by with_reducible exact Nat.le_refl _) | apply SameI.mk | apply SameN.mk | apply SameL.mk | apply SameB.mk | apply LeN.mk
    all_goals first | rfl | exact (ofN_succ _).symm | (simp only [toNat_ofN, NX.v, IX.v, Nat.le_refl]; done) | ((try simp only [toNat_ofN, NX.v, IX.v, nadd, nsub]); omega) | skip
    all_goals first | exact (nearB'_0 _ _ _).symm | exact congrArg ofN (sumF_0 _ _).symm
  · intro i R ⟨hi, hj⟩ hR
    have i0 := ofN_nonneg i
    cbv
    refine Br.mk (fun hc => ?_) (fun hc => ?_)
    · cbv
      have hi2 := lt_len hc
      have hi3 : i < M.length := by omega
      have e0 := at1_nums T i
      have e1 := at1_nums M i
      have hv15 := hT15 i hi2
      have hm16 := hM i hi3
      obtain ⟨w, hw⟩ : ∃ w, w = T.getD i 0 := ⟨_, rfl⟩
      obtain ⟨m, hm⟩ : ∃ w, w = M.getD i 0 := ⟨_, rfl⟩
      rw [← hw] at e0 hv15
      rw [← hm] at e1 hm16
      refine Chk.mk (idx1 hi2) ?_
      cbv
      refine Chk.mk (idxN hi2) ?_
      cbv
      refine Chk.mk (idx1 hi3) ?_
      cbv
      refine Chk.mk (idxN hi3) ?_
      cbv
      refine ⟨(n, m), ⟨hk, hm16⟩, Ent.of_wvs ?_, trivial, ?_⟩
      · cbv
        repeat' first | apply And.intro | exact trivial | exact SameS.mk rfl | exact SameI.mk (by with_reducible rfl) | exact SameN.mk (by with_reducible rfl) | exact SameL.mk (by with_reducible rfl) | exact SameB.mk (by with_reducible rfl) | exact LeN.mk (by with_reducible exact Nat.le_refl _) | apply SameI.mk | apply SameN.mk | apply SameL.mk | apply SameB.mk | apply LeN.mk
        all_goals first | rfl | exact (ofN_succ _).symm | (simp only [toNat_ofN, NX.v, IX.v, Nat.le_refl]; done) | ((try simp only [toNat_ofN, NX.v, IX.v, nadd, nsub]); omega) | skip
        all_goals exact e1
      intro b3 hb3
      cbv
      refine Br.mk (fun c => ?_) (fun c => ?_)
      · cbv
        refine .mk ?_
        cbv
        refine .mk _ _ h2 ?_ ?_
        all_goals cbv
        all_goals repeat' first | apply And.intro | exact trivial | exact SameS.mk rfl | exact SameI.mk (by with_reducible rfl) | exact SameN.mk (by with_reducible rfl) | exact SameL.mk (by with_reducible rfl) | exact SameB.mk (by with_reducible rfl) | exact LeN.mk (by with_reducible exact Nat.le_refl _) | apply SameI.mk | apply SameN.mk | apply SameL.mk | apply SameB.mk | apply LeN.mk
        all_goals first | rfl | exact (ofN_succ _).symm | (simp only [toNat_ofN, NX.v, IX.v, Nat.le_refl]; done) | ((try simp only [toNat_ofN, NX.v, IX.v, nadd, nsub]); omega) | skip
      cbv
      have hb31 : b3 = true := by have : bnot b3 = false := c; cases b3; cases this; rfl
      have hmk : m < 2 ^ kdN n := hb3.1 hb31
      refine Br.mk (fun hcl => ?_) (fun hcl => ?_)
      · cbv
        have hiC := lt_len hcl
        have eC := rowsC_get hiC
        have hCb := hC i hiC
        obtain ⟨c, hc0⟩ : ∃ c, c = C.getD i [] := ⟨_, rfl⟩
        rw [← hc0] at eC hCb
        have eCl : ((((rowsC C).getD (ofN i).toNat []).getD 0 (.i 0)).rows).length = c.length := by rw [eC, nums_length]
        refine Chk.mk (idx1 hiC) ?_
        cbv
        refine Chk.mk (idxC hiC) ?_
        cbv
        refine Br.mk (fun hcl2 => ?_) (fun hcl2 => ?_)
        · cbv
          refine .mk ?_
          cbv
          refine .mk _ _ h2 ?_ ?_
          all_goals cbv
          all_goals repeat' first | apply And.intro | exact trivial | exact SameS.mk rfl | exact SameI.mk (by with_reducible rfl) | exact SameN.mk (by with_reducible rfl) | exact SameL.mk (by with_reducible rfl) | exact SameB.mk (by with_reducible rfl) | exact LeN.mk (by with_reducible exact Nat.le_refl _) | apply SameI.mk | apply SameN.mk | apply SameL.mk | apply SameB.mk | apply LeN.mk
          all_goals first | rfl | exact (ofN_succ _).symm | (simp only [toNat_ofN, NX.v, IX.v, Nat.le_refl]; done) | ((try simp only [toNat_ofN, NX.v, IX.v, nadd, nsub]); omega) | skip
        cbv
        have hc20 : c.length ≤ 20 := by
          have : ¬ 20 < ofN ((((rowsC C).getD (ofN i).toNat []).getD 0 (.i 0)).rows).length := gt_f.1 hcl2
          rw [eC, nums_length] at this
          simp only [ofN] at this; omega
        refine Br.t (fun hcl3 => ?_) (fun hcl3 => ?_)
        rotate_left
        · have := lt_f.1 hcl3
          rw [ofN_lt] at this
          exact this hiC
        cbv
        refine Chk.mk (idx1 hiC) ?_
        cbv
        refine Chk.mk (idxC hiC) ?_
        cbv
        refine loop_inv [0, 1, 2, 3, 9, 11, 12, 13, 14, 16, 17, 73, 74, 75, 110, 111, 112] (fun (j : Nat) => j ≤ c.length)
          (fun j => ⟨[.int .u8 (.t fun _ => ofN n), .sl 0 (.l 0) (.l 0) 1 (.t fun _ => T.length) (.t fun _ => T.length) false, .sl 1 (.l 0) (.l 0) 1 (.t fun _ => M.length) (.t fun _ => M.length) false, .sl 2 (.l 0) (.l 0) 1 (.t fun _ => C.length) (.t fun _ => C.length) false, .undef, .undef, .undef, .undef, .undef, .ptr 3 (.l 0) (.l 0), .undef, .bool (.t fun _ => true), .bool (.t fun _ => nearB' (tN n) T C i), .int .i64 (.t fun _ => ofN (sumF T C i)), .sl 4 (.l 0) (.l 0) 1 (.t fun _ => i) (.t fun _ => i) false, .undef, .int .u16 (.t fun _ => ofN w), .int .u16 (.t fun _ => ofN (flipTo w c j)), .undef, .undef, .undef, .undef, .undef, .undef, .undef, .undef, .undef, .undef, .undef, .undef, .undef, .undef, .undef, .undef, .undef, .undef, .undef, .undef, .undef, .undef, .undef, .undef, .undef, .undef, .undef, .undef, .undef, .undef, .undef, .undef, .undef, .undef, .undef, .undef, .undef, .undef, .undef, .undef, .undef, .undef, .undef, .undef, .undef, .undef, .undef, .undef, .undef, .undef, .undef, .undef, .undef, .undef, .undef, .sl 0 (.l 0) (.l 0) 1 (.t fun _ => T.length) (.t fun _ => T.length) false, .int .i64 (.t fun _ => ofN T.length), .int .i64 (.t fun _ => ofN i), .undef, .undef, .undef, .undef, .undef, .undef, .undef, .undef, .undef, .undef, .undef, .undef, .undef, .undef, .undef, .undef, .undef, .undef, .undef, .undef, .undef, .undef, .undef, .undef, .undef, .undef, .undef, .undef, .undef, .undef, .undef, .undef, .undef, .undef, .sl 5 (.l 0) (.l 0) 1 (.t fun _ => c.length) (.t fun _ => c.length) false, .int .i64 (.t fun _ => ofN c.length), .int .i64 (.t fun _ => ofN j), .undef, .undef, .undef, .undef, .undef, .undef, .undef, .undef, .undef, .undef, .undef, .undef, .undef, .undef, .undef, .undef, .undef, .undef, .undef, .undef, .undef, .undef, .undef, .undef, .undef, .undef, .undef, .undef, .undef, .undef, .undef, .undef, .undef, .undef, .undef, .undef, .undef, .undef, .undef, .undef, .undef, .undef, .undef, .undef, .undef, .undef, .undef, .undef, .undef, .undef, .undef, .undef, .undef, .undef, .undef, .undef, .undef, .undef, .undef, .undef, .undef, .undef, .undef, .undef, .undef, .undef, .undef, .undef, .undef, .undef, .undef, .undef, .undef, .undef, .undef, .undef, .undef, .undef, .undef, .undef, .undef, .undef, .undef, .undef, .undef, .undef, .undef, .undef, .undef, .undef, .undef, .undef, .undef, .undef, .undef, .undef, .undef, .undef, .undef, .undef, .undef, .undef, .undef, .undef, .undef, .undef, .undef, .undef, .undef, .undef, .undef, .undef, .undef, .undef, .undef, .undef, .undef, .undef, .undef, .undef, .undef, .undef, .undef, .undef, .undef, .undef, .undef, .undef, .undef, .undef, .undef, .undef, .undef, .undef, .undef, .undef, .undef, .undef, .undef, .undef, .undef, .undef, .undef, .undef, .undef, .undef, .undef, .undef, .undef, .undef],
            [some ⟨false, .rows [.int .u16] fun _ => nums T⟩, some ⟨false, .rows [.int .u16] fun _ => nums M⟩, some ⟨false, .rows [.sl [.int .u8]] fun _ => rowsC C⟩, some ⟨true, .cells [.int .i64 (.t fun _ => ofN 15), .int .i64 (.t fun _ => perm), .int .u16 (.t fun _ => pad)]⟩, some ⟨true, .rows [.int .u16] fun _ => nums (listF i (simF T C))⟩, some ⟨false, .rows [.int .u8] fun _ => nums c⟩]⟩) (fun j => c.length - j) 0 (Nat.zero_le _) ?_ ?_
        · cbv
          repeat' first | apply And.intro | exact trivial | exact SameS.mk rfl | exact SameI.mk (by with_reducible rfl) | exact SameN.mk (by with_reducible rfl) | exact SameL.mk (by with_reducible rfl) | exact SameB.mk (by with_reducible rfl) | exact LeN.mk (by with_reducible exact Nat.le_refl _) | apply SameI.mk | apply SameN.mk | apply SameL.mk | apply SameB.mk | apply LeN.mk
          all_goals first | rfl | exact (ofN_succ _).symm | (simp only [toNat_ofN, NX.v, IX.v, Nat.le_refl]; done) | ((try simp only [toNat_ofN, NX.v, IX.v, nadd, nsub]); omega) | skip
          all_goals first | exact e0 | exact e0.trans (congrArg ofN (flip_z _ _).symm) | exact eC | exact eCl | exact congrArg ofN eCl | exact Nat.le_of_eq eCl.symm | exact Nat.le_of_eq eCl
        · intro j R2 hj2 hR2
          have j0 := ofN_nonneg j
          cbv
          refine Br.mk (fun hcj => ?_) (fun hcj => ?_)
          · cbv
            have hjc := lt_len hcj
            have ec := at1_nums c j
            have hcb := hCb j hjc
            have hf15 := flip_lt hv15 c j
            have h15 : c.getD j 0 % 15 < 15 := Nat.mod_lt _ (by decide)
            have hp15 : 2 ^ (c.getD j 0 % 15) < 32768 := show 2 ^ (c.getD j 0 % 15) < 2 ^ 15 from Nat.pow_lt_pow_right (by decide) h15
            have er := rem15 (c.getD j 0)
            have es1 := shl16_one h15
            have ex : aop (.bits .xor .u16) (ofN (flipTo w c j)) (ofN (2 ^ (c.getD j 0 % 15))) = ofN (flipTo w c (j + 1)) := by rw [flip_s]; exact xor16 (by omega) (by omega)
            refine Chk.mk (idx1 hjc) ?_
            cbv
            refine Chk.mk (idxN hjc) ?_
            cbv
            refine Chk.mk ((by show 0 ≤ aop .rem (at1 (nums c) (ofN j).toNat) 15; rw [ec, er]; exact ofN_nonneg _)) ?_
            cbv
            refine Chk.mk (inc64 hjc (by omega)) ?_
            cbv
            refine .mk (hR2 (j + 1) _ hjc (by omega) ?_)
            cbv
            repeat' first | apply And.intro | exact trivial | exact SameS.mk rfl | exact SameI.mk (by with_reducible rfl) | exact SameN.mk (by with_reducible rfl) | exact SameL.mk (by with_reducible rfl) | exact SameB.mk (by with_reducible rfl) | exact LeN.mk (by with_reducible exact Nat.le_refl _) | apply SameI.mk | apply SameN.mk | apply SameL.mk | apply SameB.mk | apply LeN.mk
            all_goals first | rfl | exact (ofN_succ _).symm | (simp only [toNat_ofN, NX.v, IX.v, Nat.le_refl]; done) | ((try simp only [toNat_ofN, NX.v, IX.v, nadd, nsub]); omega) | skip
            all_goals first | exact aop_add.trans (ofN_succ _).symm | (show aop (.bits .xor .u16) (ofN (flipTo w c j)) (aop (.shl .u16) 1 (aop .rem (at1 (nums c) (ofN j).toNat) 15)) = ofN (flipTo w c (j + 1)); rw [ec, er, es1, ex])
          · cbv
            refine .mk ?_
            cbv
            obtain rfl := ge_len hcj hj2
            obtain ⟨v, hv⟩ : ∃ v, v = flipTo w c c.length := ⟨_, rfl⟩
            have hv15' : v < 32768 := by rw [hv]; exact flip_lt hv15 c _
            have hvs : simF T C i = v := by rw [simF_e, hv, hw, hc0]
            have hw16 : w < 65536 := by omega
            have hv16 : v < 65536 := by omega
            have efar : popN (v ^^^ w) 16 = farF T C i := by rw [farF_e, hvs, hw]
            have hfl := farF_le T C i
            have hsl := sumF_le T C (i + 1)
            have esum : ofN (sumF T C i) + ofN (popN (v ^^^ w) 16) = ofN (sumF T C (i + 1)) := by rw [efar, sumF_s]; simp only [ofN]; omega
            have hjn : ∀ j, j < i + 1 → M.getD j 0 < 2 ^ kdN n := fun j h => by rcases Nat.lt_or_ge j i with h6 | h6; exact hj j h6; rw [show j = i by omega, ← hm]; exact hmk
            have egrow : ((nums (listF i (simF T C))).drop 0).take i ++ [[D.i (ofN v)]] = nums (listF (i + 1) (simF T C)) := by rw [← hvs]; exact grow_nums _ i
            have enear : nearB' (tN n) T C i = true → cop .le (ofN (popN (v ^^^ w) 16)) (ofN (tN n)) = nearB' (tN n) T C (i + 1) := fun h => by
              rw [nearB'_s, h, efar]
              show decide (ofN (farF T C i) ≤ ofN (tN n)) = (true && decide (farF T C i ≤ tN n))
              rw [Bool.true_and]
              exact decide_eq_decide.2 ofN_le
            have egrow2 : ((nums (listF i (simF T C))).drop 0).take i ++ [[D.i (ofN (flipTo w c c.length))]] = nums (listF (i + 1) (simF T C)) := by rw [← hv]; exact egrow
            refine Chk.mk (Nat.le_refl _) ?_
            cbv
            refine Chk.mk (by (try simp only [NX.v, IX.v, nadd, nsub, nmul, aop_add, aop_sub, aop_mul, toNat_ofN, ints_length, List.length_append, List.length_take, List.length_drop, List.length_replicate, List.length_cons, List.length_nil, List.length_map, maxBytes, nums_length, listF_length]); (try simp only [ofN]); omega) ?_
            cbv
            refine Chk.mk (by (try simp only [NX.v, IX.v, nadd, nsub, nmul, aop_add, aop_sub, aop_mul, toNat_ofN, ints_length, List.length_append, List.length_take, List.length_drop, List.length_replicate, List.length_cons, List.length_nil, List.length_map, maxBytes]); (try simp only [ofN]); omega) ?_
            cbv
            refine App.either rfl ?_
            cbv
            refine ⟨(v, w), ⟨hv16, hw16⟩, Ent.of_wvs ?_, trivial, ?_⟩
            · cbv
              repeat' first | apply And.intro | exact trivial | exact SameS.mk rfl | exact SameI.mk (by with_reducible rfl) | exact SameN.mk (by with_reducible rfl) | exact SameL.mk (by with_reducible rfl) | exact SameB.mk (by with_reducible rfl) | exact LeN.mk (by with_reducible exact Nat.le_refl _) | apply SameI.mk | apply SameN.mk | apply SameL.mk | apply SameB.mk | apply LeN.mk
              all_goals first | rfl | exact (ofN_succ _).symm | (simp only [toNat_ofN, NX.v, IX.v, Nat.le_refl]; done) | ((try simp only [toNat_ofN, NX.v, IX.v, nadd, nsub]); omega) | skip
              all_goals exact congrArg ofN hv.symm
            cbv
            refine Br.mk (fun hnr => ?_) (fun hnr => ?_)
            · have hnr : nearB' (tN n) T C i = true := hnr
              cbv
              refine ⟨n, hk, Ent.of_wvs ?_, trivial, ?_⟩
              · cbv
                repeat' first | apply And.intro | exact trivial | exact SameS.mk rfl | exact SameI.mk (by with_reducible rfl) | exact SameN.mk (by with_reducible rfl) | exact SameL.mk (by with_reducible rfl) | exact SameB.mk (by with_reducible rfl) | exact LeN.mk (by with_reducible exact Nat.le_refl _) | apply SameI.mk | apply SameN.mk | apply SameL.mk | apply SameB.mk | apply LeN.mk
                all_goals first | rfl | exact (ofN_succ _).symm | (simp only [toNat_ofN, NX.v, IX.v, Nat.le_refl]; done) | ((try simp only [toNat_ofN, NX.v, IX.v, nadd, nsub]); omega) | skip
              cbv
              refine Chk.mk (inR64 (by rw [aop_add, esum]; simp only [ofN]; omega)) ?_
              cbv
              refine Chk.mk (inc64 hi2 (by omega)) ?_
              cbv
              refine .mk (hR (i + 1) _ ⟨hi2, hjn⟩ (by omega) ?_)
              cbv
              repeat' first | apply And.intro | exact trivial | exact SameS.mk rfl | exact SameI.mk (by with_reducible rfl) | exact SameN.mk (by with_reducible rfl) | exact SameL.mk (by with_reducible rfl) | exact SameB.mk (by with_reducible rfl) | exact LeN.mk (by with_reducible exact Nat.le_refl _) | apply SameI.mk | apply SameN.mk | apply SameL.mk | apply SameB.mk | apply LeN.mk
              all_goals first | rfl | exact (ofN_succ _).symm | (simp only [toNat_ofN, NX.v, IX.v, Nat.le_refl]; done) | ((try simp only [toNat_ofN, NX.v, IX.v, nadd, nsub]); omega) | skip
              all_goals first | exact aop_add.trans (ofN_succ _).symm | exact aop_add.trans esum | exact egrow2 | exact enear hnr | (show false = nearB' (tN n) T C (i + 1); rw [nearB'_s, hnr]; rfl)
            · have hnr : nearB' (tN n) T C i = false := hnr
              cbv
              refine Chk.mk (inR64 (by rw [aop_add, esum]; simp only [ofN]; omega)) ?_
              cbv
              refine Chk.mk (inc64 hi2 (by omega)) ?_
              cbv
              refine .mk (hR (i + 1) _ ⟨hi2, hjn⟩ (by omega) ?_)
              cbv
              repeat' first | apply And.intro | exact trivial | exact SameS.mk rfl | exact SameI.mk (by with_reducible rfl) | exact SameN.mk (by with_reducible rfl) | exact SameL.mk (by with_reducible rfl) | exact SameB.mk (by with_reducible rfl) | exact LeN.mk (by with_reducible exact Nat.le_refl _) | apply SameI.mk | apply SameN.mk | apply SameL.mk | apply SameB.mk | apply LeN.mk
              all_goals first | rfl | exact (ofN_succ _).symm | (simp only [toNat_ofN, NX.v, IX.v, Nat.le_refl]; done) | ((try simp only [toNat_ofN, NX.v, IX.v, nadd, nsub]); omega) | skip
              all_goals first | exact aop_add.trans (ofN_succ _).symm | exact aop_add.trans esum | exact egrow2 | exact enear hnr | (show false = nearB' (tN n) T C (i + 1); rw [nearB'_s, hnr]; rfl)
      · cbv
        have hiC : ¬ i < C.length := by have := lt_f.1 hcl; rw [ofN_lt] at this; exact this
        have hce : C.getD i [] = [] := by simp [List.getD_eq_getElem?_getD, List.getElem?_eq_none (Nat.not_lt.1 hiC)]
        obtain ⟨v, hv⟩ : ∃ v, v = w := ⟨_, rfl⟩
        have hv15' : v < 32768 := by rw [hv]; exact hv15
        have hvs : simF T C i = v := by rw [simF_e, hce, hv, hw]; exact flip_0 _
        have hw16 : w < 65536 := by omega
        have hv16 : v < 65536 := by omega
        have efar : popN (v ^^^ w) 16 = farF T C i := by rw [farF_e, hvs, hw]
        have hfl := farF_le T C i
        have hsl := sumF_le T C (i + 1)
        have esum : ofN (sumF T C i) + ofN (popN (v ^^^ w) 16) = ofN (sumF T C (i + 1)) := by rw [efar, sumF_s]; simp only [ofN]; omega
        have hjn : ∀ j, j < i + 1 → M.getD j 0 < 2 ^ kdN n := fun j h => by rcases Nat.lt_or_ge j i with h6 | h6; exact hj j h6; rw [show j = i by omega, ← hm]; exact hmk
        have egrow : ((nums (listF i (simF T C))).drop 0).take i ++ [[D.i (ofN v)]] = nums (listF (i + 1) (simF T C)) := by rw [← hvs]; exact grow_nums _ i
        have enear : nearB' (tN n) T C i = true → cop .le (ofN (popN (v ^^^ w) 16)) (ofN (tN n)) = nearB' (tN n) T C (i + 1) := fun h => by
          rw [nearB'_s, h, efar]
          show decide (ofN (farF T C i) ≤ ofN (tN n)) = (true && decide (farF T C i ≤ tN n))
          rw [Bool.true_and]
          exact decide_eq_decide.2 ofN_le
        have egrow2 : ((nums (listF i (simF T C))).drop 0).take i ++ [[D.i (at1 (nums T) (ofN i).toNat)]] = nums (listF (i + 1) (simF T C)) := by rw [e0, ← hv]; exact egrow
        refine Br.f (fun hcl3 => ?_) (fun hcl3 => ?_)
        · have := lt_t.1 hcl3
          rw [ofN_lt] at this
          exact hiC this
        cbv
        refine Chk.mk (Nat.le_refl _) ?_
        cbv
        refine Chk.mk (by (try simp only [NX.v, IX.v, nadd, nsub, nmul, aop_add, aop_sub, aop_mul, toNat_ofN, ints_length, List.length_append, List.length_take, List.length_drop, List.length_replicate, List.length_cons, List.length_nil, List.length_map, maxBytes, nums_length, listF_length]); (try simp only [ofN]); omega) ?_
        cbv
        refine Chk.mk (by (try simp only [NX.v, IX.v, nadd, nsub, nmul, aop_add, aop_sub, aop_mul, toNat_ofN, ints_length, List.length_append, List.length_take, List.length_drop, List.length_replicate, List.length_cons, List.length_nil, List.length_map, maxBytes]); (try simp only [ofN]); omega) ?_
        cbv
        refine App.either rfl ?_
        cbv
        refine ⟨(v, w), ⟨hv16, hw16⟩, Ent.of_wvs ?_, trivial, ?_⟩
        · cbv
          repeat' first | apply And.intro | exact trivial | exact SameS.mk rfl | exact SameI.mk (by with_reducible rfl) | exact SameN.mk (by with_reducible rfl) | exact SameL.mk (by with_reducible rfl) | exact SameB.mk (by with_reducible rfl) | exact LeN.mk (by with_reducible exact Nat.le_refl _) | apply SameI.mk | apply SameN.mk | apply SameL.mk | apply SameB.mk | apply LeN.mk
          all_goals first | rfl | exact (ofN_succ _).symm | (simp only [toNat_ofN, NX.v, IX.v, Nat.le_refl]; done) | ((try simp only [toNat_ofN, NX.v, IX.v, nadd, nsub]); omega) | skip
          all_goals first | exact e0.trans (congrArg ofN hv.symm) | exact e0
        cbv
        refine Br.mk (fun hnr => ?_) (fun hnr => ?_)
        · have hnr : nearB' (tN n) T C i = true := hnr
          cbv
          refine ⟨n, hk, Ent.of_wvs ?_, trivial, ?_⟩
          · cbv
            repeat' first | apply And.intro | exact trivial | exact SameS.mk rfl | exact SameI.mk (by with_reducible rfl) | exact SameN.mk (by with_reducible rfl) | exact SameL.mk (by with_reducible rfl) | exact SameB.mk (by with_reducible rfl) | exact LeN.mk (by with_reducible exact Nat.le_refl _) | apply SameI.mk | apply SameN.mk | apply SameL.mk | apply SameB.mk | apply LeN.mk
            all_goals first | rfl | exact (ofN_succ _).symm | (simp only [toNat_ofN, NX.v, IX.v, Nat.le_refl]; done) | ((try simp only [toNat_ofN, NX.v, IX.v, nadd, nsub]); omega) | skip
          cbv
          refine Chk.mk (inR64 (by rw [aop_add, esum]; simp only [ofN]; omega)) ?_
          cbv
          refine Chk.mk (inc64 hi2 (by omega)) ?_
          cbv
          refine .mk (hR (i + 1) _ ⟨hi2, hjn⟩ (by omega) ?_)
          cbv
          repeat' first | apply And.intro | exact trivial | exact SameS.mk rfl | exact SameI.mk (by with_reducible rfl) | exact SameN.mk (by with_reducible rfl) | exact SameL.mk (by with_reducible rfl) | exact SameB.mk (by with_reducible rfl) | exact LeN.mk (by with_reducible exact Nat.le_refl _) | apply SameI.mk | apply SameN.mk | apply SameL.mk | apply SameB.mk | apply LeN.mk
          all_goals first | rfl | exact (ofN_succ _).symm | (simp only [toNat_ofN, NX.v, IX.v, Nat.le_refl]; done) | ((try simp only [toNat_ofN, NX.v, IX.v, nadd, nsub]); omega) | skip
          all_goals first | exact aop_add.trans (ofN_succ _).symm | exact aop_add.trans esum | exact egrow2 | exact enear hnr | (show false = nearB' (tN n) T C (i + 1); rw [nearB'_s, hnr]; rfl)
        · have hnr : nearB' (tN n) T C i = false := hnr
          cbv
          refine Chk.mk (inR64 (by rw [aop_add, esum]; simp only [ofN]; omega)) ?_
          cbv
          refine Chk.mk (inc64 hi2 (by omega)) ?_
          cbv
          refine .mk (hR (i + 1) _ ⟨hi2, hjn⟩ (by omega) ?_)
          cbv
          repeat' first | apply And.intro | exact trivial | exact SameS.mk rfl | exact SameI.mk (by with_reducible rfl) | exact SameN.mk (by with_reducible rfl) | exact SameL.mk (by with_reducible rfl) | exact SameB.mk (by with_reducible rfl) | exact LeN.mk (by with_reducible exact Nat.le_refl _) | apply SameI.mk | apply SameN.mk | apply SameL.mk | apply SameB.mk | apply LeN.mk
          all_goals first | rfl | exact (ofN_succ _).symm | (simp only [toNat_ofN, NX.v, IX.v, Nat.le_refl]; done) | ((try simp only [toNat_ofN, NX.v, IX.v, nadd, nsub]); omega) | skip
          all_goals first | exact aop_add.trans (ofN_succ _).symm | exact aop_add.trans esum | exact egrow2 | exact enear hnr | (show false = nearB' (tN n) T C (i + 1); rw [nearB'_s, hnr]; rfl)
    · cbv
      refine .mk ?_
      cbv
      obtain rfl := ge_len hc hi
      obtain ⟨Sl, hSl⟩ : ∃ L, L = listF T.length (simF T C) := ⟨_, rfl⟩
      have hSl2 : Sl.length = T.length := by rw [hSl, listF_length]
      have hs15 : ∀ i, i < T.length → simF T C i < 32768 := fun i hi => by rw [simF_e]; exact flip_lt (hT15 i hi) _ _
      have bS : Below Sl 32768 := fun i hi => by rw [hSl, listF_get (by omega)]; exact hs15 i (by omega)
      have hT1000 : T.length ≤ 1000 := by omega
      have hS1000 : Sl.length ≤ 1000 := by omega
      obtain ⟨A, hA⟩ : ∃ L, L = listF T.length (HideX.f ⟨⟨15, perm, pad⟩, T, false⟩) := ⟨_, rfl⟩
      obtain ⟨B, hB⟩ : ∃ L, L = listF Sl.length (HideX.f ⟨⟨15, perm, pad⟩, Sl, true⟩) := ⟨_, rfl⟩
      have hAl : A.length = T.length := by rw [hA, listF_length]
      have hBl : B.length = T.length := by rw [hB, listF_length, hSl2]
      have hAg : ∀ i, i < T.length → A.getD i 0 = hideN ⟨15, perm, pad⟩ (T.getD i 0) := fun i hi => by rw [hA, listF_get hi]; rfl
      have hBg : ∀ i, i < T.length → B.getD i 0 = hideN ⟨15, perm, pad⟩ (simF T C i) := fun i hi => by rw [hB, listF_get (by omega)]; show hideN _ (Sl.getD i 0) = _; rw [hSl, listF_get hi]
      have bA : Below A 32768 := fun i hi => by rw [hAg i (by omega)]; exact hideN_lt hkey _
      have bB : Below B 32768 := fun i hi => by rw [hBg i (by omega)]; exact hideN_lt hkey _
      have bM : Below M (2 ^ kdN n) := fun i hi => hj i (by omega)
      have hfar : ∀ i, i < T.length → farI A B i = farF T C i := fun i hi => by
        unfold farI
        rw [hAg i hi, hBg i hi, far_same hkey, farF_e]
        exact (pop_16 (Nat.xor_lt_two_pow (n := 15) (hs15 i hi) (hT15 i hi))).symm
      have hshow : ∀ i, i < T.length → showI ⟨15, perm, pad⟩ (ofN (A.getD i 0)) = ofN (T.getD i 0) := fun i hi => by rw [hAg i hi]; exact show_hide hkey rfl (hT15 i hi)
      obtain ⟨Skl, hSkl⟩ : ∃ L, L = skL n A := ⟨_, rfl⟩
      obtain ⟨Cm, hCm⟩ : ∃ L, L = comL n A M := ⟨_, rfl⟩
      obtain ⟨tg, htg⟩ : ∃ t, t = tagTo M M.length := ⟨_, rfl⟩
      have hSkll : Skl.length = A.length := by rw [hSkl]; exact skL_length _ _
      have hCmll : Cm.length = A.length := by rw [hCm]; exact comL_length _ _ _
      have eSk : nums (listF A.length (SkX.f ⟨n, A⟩)) = nums Skl := by rw [hSkl, skL_eq]
      have eCm : nums (listF A.length (ComX.f ⟨n, A, M, false⟩)) = nums Cm := by rw [hCm, comL_eq]
      have hA1 : 1 ≤ A.length := by omega
      have hA4 : A.length ≤ 4 := by omega
      have hB1 : 1 ≤ B.length := by omega
      have hB4 : B.length ≤ 4 := by omega
      have hMA : M.length = A.length := by omega
      have hSB : Skl.length = B.length := by omega
      have hCB : Cm.length = B.length := by omega
      have bSk : Below Skl (2 ^ fN n) := fun i hi => by rw [hSkl] at hi ⊢; unfold skL at hi ⊢; rw [listF_length] at hi; rw [listF_get hi]; exact restL_lt hk _
      have bCm : Below Cm 32768 := fun i hi => by
        rw [hCm] at hi ⊢; unfold comL at hi ⊢; rw [listF_length] at hi; rw [listF_get hi]
        exact Nat.xor_lt_two_pow (n := 15) (bA i hi) (code15 hk (bM i (by omega)))
      have hnear : nearB' (tN n) T C T.length = true ↔ ∀ i, i < T.length → farI A B i ≤ tN n := by
        rw [nearB'_iff]
        exact ⟨fun h i hi => by rw [hfar i hi]; exact h i hi, fun h i hi => by rw [← hfar i hi]; exact h i hi⟩
      have hsumF : ∀ i, i ≤ T.length → farSum A B i = sumF T C i := fun i => by
        induction i with
        | zero => intro _; rw [sumF_0]; exact farSum_0 _ _
        | succ i ih => intro h; rw [sumF_s, farSum_s, ih (by omega), hfar i (by omega)]
      obtain ⟨outR, hoR⟩ : ∃ L, L = listF B.length (RecX.out ⟨n, Skl, B⟩) := ⟨_, rfl⟩
      obtain ⟨outO, hoO⟩ : ∃ L, L = OpX.outL ⟨n, Cm, tg, B⟩ := ⟨_, rfl⟩
      have hoRl : outR.length = B.length := by rw [hoR, listF_length]
      have hoOl : outO.length = B.length := by rw [hoO]; exact listF_length _ _
      have hoRA : outR.length = A.length := by omega
      have hoOM : outO.length = M.length := by omega
      have hoR1000 : outR.length ≤ 1000 := by omega
      have hoO1000 : outO.length ≤ 1000 := by omega
      have fR1 : (∀ i, i < T.length → farI A B i ≤ tN n) → (∀ i, i < B.length → RecX.near ⟨n, Skl, B⟩ i = true) ∧ outR = A := fun h => by
        rw [hoR, hSkl]; exact rec_all hk hAl hBl hml bA bB bM h
      have fO1 : (∀ i, i < T.length → farI A B i ≤ tN n) → OpX.opens ⟨n, Cm, tg, B⟩ ∧ outO = M := fun h => by
        rw [hoO, hCm, htg, hml]; exact op_all hk hAl hBl hml bA bB bM h
      have fRs : (∀ i, i < T.length → farI A B i ≤ tN n) → RecX.sum ⟨n, Skl, B⟩ B.length = sumF T C T.length := fun h => by
        rw [hSkl, hBl, rec_sum hk hAl hBl bA bB h T.length (Nat.le_refl _), hsumF _ (Nat.le_refl _)]
      have fR0 : ∀ i, i < T.length → ¬ farI A B i ≤ tN n → RecX.near ⟨n, Skl, B⟩ i = true → outR.getD i 0 ≠ A.getD i 0 := fun i hi h hn => by
        rw [hoR, listF_get (by omega)]; rw [hSkl] at hn ⊢; exact rec_far hk hAl hBl bA bB hi h hn
      have fO0 : ∀ i, i < T.length → ¬ farI A B i ≤ tN n → OpX.near ⟨n, Cm, tg, B⟩ i = true → outO.getD i 0 ≠ M.getD i 0 := fun i hi h hn => by
        have : outO = listF B.length (OpX.out ⟨n, Cm, tg, B⟩) := hoO
        rw [this, listF_get (by omega)]; rw [hCm] at hn ⊢; exact op_far hk hAl hBl hml bA bB bM hi h hn
      refine ⟨⟨⟨15, perm, pad⟩, T, false⟩, ⟨hkey, rfl, hT1000, hT15⟩, Ent.of_wvs ?_, ?_, ?_⟩
      · cbv
        repeat' first | apply And.intro | exact trivial | exact SameS.mk rfl | exact SameI.mk (by with_reducible rfl) | exact SameN.mk (by with_reducible rfl) | exact SameL.mk (by with_reducible rfl) | exact SameB.mk (by with_reducible rfl) | exact LeN.mk (by with_reducible exact Nat.le_refl _) | apply SameI.mk | apply SameN.mk | apply SameL.mk | apply SameB.mk | apply LeN.mk
        all_goals first | rfl | exact (ofN_succ _).symm | (simp only [toNat_ofN, NX.v, IX.v, Nat.le_refl]; done) | ((try simp only [toNat_ofN, NX.v, IX.v, nadd, nsub]); omega) | skip
        all_goals first | exact Nat.le_refl _ | exact hAl | exact hAl.symm | exact hBl | exact hBl.symm | exact hSl2 | exact hSl2.symm | exact Nat.le_of_eq hAl | exact Nat.le_of_eq hAl.symm | exact Nat.le_of_eq hBl | exact Nat.le_of_eq hBl.symm | exact Nat.le_of_eq hSl2 | exact Nat.le_of_eq hSl2.symm | exact congrArg nums hA.symm | exact congrArg nums hB.symm | exact congrArg nums hSl.symm | exact eSk | exact eCm | exact hSkll | exact hSkll.symm | exact hCmll | exact hCmll.symm | exact Nat.le_of_eq hSkll | exact Nat.le_of_eq hCmll | exact congrArg ofN hml | exact htg.symm | exact hml | exact hml.symm | exact Nat.le_of_eq hml | exact Nat.le_of_eq hml.symm | rfl
      · cbv
        repeat' first | apply And.intro | exact trivial | exact SameS.mk rfl | exact SameI.mk (by with_reducible rfl) | exact SameN.mk (by with_reducible rfl) | exact SameL.mk (by with_reducible rfl) | exact SameB.mk (by with_reducible rfl) | exact LeN.mk (by with_reducible exact Nat.le_refl _) | apply SameI.mk | apply SameN.mk | apply SameL.mk | apply SameB.mk | apply LeN.mk
        all_goals first | rfl | exact (ofN_succ _).symm | (simp only [toNat_ofN, NX.v, IX.v, Nat.le_refl]; done) | ((try simp only [toNat_ofN, NX.v, IX.v, nadd, nsub]); omega) | skip
        all_goals first | exact Nat.le_refl _ | exact hAl | exact hAl.symm | exact hBl | exact hBl.symm | exact hSl2 | exact hSl2.symm | exact Nat.le_of_eq hAl | exact Nat.le_of_eq hAl.symm | exact Nat.le_of_eq hBl | exact Nat.le_of_eq hBl.symm | exact Nat.le_of_eq hSl2 | exact Nat.le_of_eq hSl2.symm | exact congrArg nums hA.symm | exact congrArg nums hB.symm | exact congrArg nums hSl.symm | exact eSk | exact eCm | exact hSkll | exact hSkll.symm | exact hCmll | exact hCmll.symm | exact Nat.le_of_eq hSkll | exact Nat.le_of_eq hCmll | exact congrArg ofN hml | exact htg.symm | exact hml | exact hml.symm | exact Nat.le_of_eq hml | exact Nat.le_of_eq hml.symm | rfl
      cbv
      refine ⟨⟨⟨15, perm, pad⟩, Sl, true⟩, ⟨hkey, rfl, hS1000, bS⟩, Ent.of_wvs ?_, ?_, ?_⟩
      · cbv
        repeat' first | apply And.intro | exact trivial | exact SameS.mk rfl | exact SameI.mk (by with_reducible rfl) | exact SameN.mk (by with_reducible rfl) | exact SameL.mk (by with_reducible rfl) | exact SameB.mk (by with_reducible rfl) | exact LeN.mk (by with_reducible exact Nat.le_refl _) | apply SameI.mk | apply SameN.mk | apply SameL.mk | apply SameB.mk | apply LeN.mk
        all_goals first | rfl | exact (ofN_succ _).symm | (simp only [toNat_ofN, NX.v, IX.v, Nat.le_refl]; done) | ((try simp only [toNat_ofN, NX.v, IX.v, nadd, nsub]); omega) | skip
        all_goals first | exact Nat.le_refl _ | exact hAl | exact hAl.symm | exact hBl | exact hBl.symm | exact hSl2 | exact hSl2.symm | exact Nat.le_of_eq hAl | exact Nat.le_of_eq hAl.symm | exact Nat.le_of_eq hBl | exact Nat.le_of_eq hBl.symm | exact Nat.le_of_eq hSl2 | exact Nat.le_of_eq hSl2.symm | exact congrArg nums hA.symm | exact congrArg nums hB.symm | exact congrArg nums hSl.symm | exact eSk | exact eCm | exact hSkll | exact hSkll.symm | exact hCmll | exact hCmll.symm | exact Nat.le_of_eq hSkll | exact Nat.le_of_eq hCmll | exact congrArg ofN hml | exact htg.symm | exact hml | exact hml.symm | exact Nat.le_of_eq hml | exact Nat.le_of_eq hml.symm | rfl
      · cbv
        repeat' first | apply And.intro | exact trivial | exact SameS.mk rfl | exact SameI.mk (by with_reducible rfl) | exact SameN.mk (by with_reducible rfl) | exact SameL.mk (by with_reducible rfl) | exact SameB.mk (by with_reducible rfl) | exact LeN.mk (by with_reducible exact Nat.le_refl _) | apply SameI.mk | apply SameN.mk | apply SameL.mk | apply SameB.mk | apply LeN.mk
        all_goals first | rfl | exact (ofN_succ _).symm | (simp only [toNat_ofN, NX.v, IX.v, Nat.le_refl]; done) | ((try simp only [toNat_ofN, NX.v, IX.v, nadd, nsub]); omega) | skip
        all_goals first | exact Nat.le_refl _ | exact hAl | exact hAl.symm | exact hBl | exact hBl.symm | exact hSl2 | exact hSl2.symm | exact Nat.le_of_eq hAl | exact Nat.le_of_eq hAl.symm | exact Nat.le_of_eq hBl | exact Nat.le_of_eq hBl.symm | exact Nat.le_of_eq hSl2 | exact Nat.le_of_eq hSl2.symm | exact congrArg nums hA.symm | exact congrArg nums hB.symm | exact congrArg nums hSl.symm | exact eSk | exact eCm | exact hSkll | exact hSkll.symm | exact hCmll | exact hCmll.symm | exact Nat.le_of_eq hSkll | exact Nat.le_of_eq hCmll | exact congrArg ofN hml | exact htg.symm | exact hml | exact hml.symm | exact Nat.le_of_eq hml | exact Nat.le_of_eq hml.symm | rfl
      cbv
      refine ⟨⟨n, A⟩, ⟨hk, hA1, hA4, bA⟩, Ent.of_wvs ?_, ?_, ?_⟩
      · cbv
        repeat' first | apply And.intro | exact trivial | exact SameS.mk rfl | exact SameI.mk (by with_reducible rfl) | exact SameN.mk (by with_reducible rfl) | exact SameL.mk (by with_reducible rfl) | exact SameB.mk (by with_reducible rfl) | exact LeN.mk (by with_reducible exact Nat.le_refl _) | apply SameI.mk | apply SameN.mk | apply SameL.mk | apply SameB.mk | apply LeN.mk
        all_goals first | rfl | exact (ofN_succ _).symm | (simp only [toNat_ofN, NX.v, IX.v, Nat.le_refl]; done) | ((try simp only [toNat_ofN, NX.v, IX.v, nadd, nsub]); omega) | skip
        all_goals first | exact Nat.le_refl _ | exact hAl | exact hAl.symm | exact hBl | exact hBl.symm | exact hSl2 | exact hSl2.symm | exact Nat.le_of_eq hAl | exact Nat.le_of_eq hAl.symm | exact Nat.le_of_eq hBl | exact Nat.le_of_eq hBl.symm | exact Nat.le_of_eq hSl2 | exact Nat.le_of_eq hSl2.symm | exact congrArg nums hA.symm | exact congrArg nums hB.symm | exact congrArg nums hSl.symm | exact eSk | exact eCm | exact hSkll | exact hSkll.symm | exact hCmll | exact hCmll.symm | exact Nat.le_of_eq hSkll | exact Nat.le_of_eq hCmll | exact congrArg ofN hml | exact htg.symm | exact hml | exact hml.symm | exact Nat.le_of_eq hml | exact Nat.le_of_eq hml.symm | rfl
      · cbv
        repeat' first | apply And.intro | exact trivial | exact SameS.mk rfl | exact SameI.mk (by with_reducible rfl) | exact SameN.mk (by with_reducible rfl) | exact SameL.mk (by with_reducible rfl) | exact SameB.mk (by with_reducible rfl) | exact LeN.mk (by with_reducible exact Nat.le_refl _) | apply SameI.mk | apply SameN.mk | apply SameL.mk | apply SameB.mk | apply LeN.mk
        all_goals first | rfl | exact (ofN_succ _).symm | (simp only [toNat_ofN, NX.v, IX.v, Nat.le_refl]; done) | ((try simp only [toNat_ofN, NX.v, IX.v, nadd, nsub]); omega) | skip
        all_goals first | exact Nat.le_refl _ | exact hAl | exact hAl.symm | exact hBl | exact hBl.symm | exact hSl2 | exact hSl2.symm | exact Nat.le_of_eq hAl | exact Nat.le_of_eq hAl.symm | exact Nat.le_of_eq hBl | exact Nat.le_of_eq hBl.symm | exact Nat.le_of_eq hSl2 | exact Nat.le_of_eq hSl2.symm | exact congrArg nums hA.symm | exact congrArg nums hB.symm | exact congrArg nums hSl.symm | exact eSk | exact eCm | exact hSkll | exact hSkll.symm | exact hCmll | exact hCmll.symm | exact Nat.le_of_eq hSkll | exact Nat.le_of_eq hCmll | exact congrArg ofN hml | exact htg.symm | exact hml | exact hml.symm | exact Nat.le_of_eq hml | exact Nat.le_of_eq hml.symm | rfl
      cbv
      refine ⟨⟨n, A, M, false⟩, ⟨hk, hA1, hA4, hMA, bA, bM⟩, Ent.of_wvs ?_, ?_, ?_⟩
      · cbv
        repeat' first | apply And.intro | exact trivial | exact SameS.mk rfl | exact SameI.mk (by with_reducible rfl) | exact SameN.mk (by with_reducible rfl) | exact SameL.mk (by with_reducible rfl) | exact SameB.mk (by with_reducible rfl) | exact LeN.mk (by with_reducible exact Nat.le_refl _) | apply SameI.mk | apply SameN.mk | apply SameL.mk | apply SameB.mk | apply LeN.mk
        all_goals first | rfl | exact (ofN_succ _).symm | (simp only [toNat_ofN, NX.v, IX.v, Nat.le_refl]; done) | ((try simp only [toNat_ofN, NX.v, IX.v, nadd, nsub]); omega) | skip
        all_goals first | exact Nat.le_refl _ | exact hAl | exact hAl.symm | exact hBl | exact hBl.symm | exact hSl2 | exact hSl2.symm | exact Nat.le_of_eq hAl | exact Nat.le_of_eq hAl.symm | exact Nat.le_of_eq hBl | exact Nat.le_of_eq hBl.symm | exact Nat.le_of_eq hSl2 | exact Nat.le_of_eq hSl2.symm | exact congrArg nums hA.symm | exact congrArg nums hB.symm | exact congrArg nums hSl.symm | exact eSk | exact eCm | exact hSkll | exact hSkll.symm | exact hCmll | exact hCmll.symm | exact Nat.le_of_eq hSkll | exact Nat.le_of_eq hCmll | exact congrArg ofN hml | exact htg.symm | exact hml | exact hml.symm | exact Nat.le_of_eq hml | exact Nat.le_of_eq hml.symm | rfl
      · cbv
        repeat' first | apply And.intro | exact trivial | exact SameS.mk rfl | exact SameI.mk (by with_reducible rfl) | exact SameN.mk (by with_reducible rfl) | exact SameL.mk (by with_reducible rfl) | exact SameB.mk (by with_reducible rfl) | exact LeN.mk (by with_reducible exact Nat.le_refl _) | apply SameI.mk | apply SameN.mk | apply SameL.mk | apply SameB.mk | apply LeN.mk
        all_goals first | rfl | exact (ofN_succ _).symm | (simp only [toNat_ofN, NX.v, IX.v, Nat.le_refl]; done) | ((try simp only [toNat_ofN, NX.v, IX.v, nadd, nsub]); omega) | skip
        all_goals first | exact Nat.le_refl _ | exact hAl | exact hAl.symm | exact hBl | exact hBl.symm | exact hSl2 | exact hSl2.symm | exact Nat.le_of_eq hAl | exact Nat.le_of_eq hAl.symm | exact Nat.le_of_eq hBl | exact Nat.le_of_eq hBl.symm | exact Nat.le_of_eq hSl2 | exact Nat.le_of_eq hSl2.symm | exact congrArg nums hA.symm | exact congrArg nums hB.symm | exact congrArg nums hSl.symm | exact eSk | exact eCm | exact hSkll | exact hSkll.symm | exact hCmll | exact hCmll.symm | exact Nat.le_of_eq hSkll | exact Nat.le_of_eq hCmll | exact congrArg ofN hml | exact htg.symm | exact hml | exact hml.symm | exact Nat.le_of_eq hml | exact Nat.le_of_eq hml.symm | rfl
      cbv
      cases hNB : nearB' (tN n) T C T.length
      · -- not near
        have hex : ∃ i, i < T.length ∧ ¬ farI A B i ≤ tN n := by
          refine Classical.byContradiction fun h => ?_
          have : nearB' (tN n) T C T.length = true := hnear.2 fun i hi => Classical.byContradiction fun h2 => h ⟨i, hi, h2⟩
          rw [hNB] at this; cases this
        by_cases hr : (∀ i, i < B.length → RecX.near ⟨n, Skl, B⟩ i = true)
        · by_cases ho : OpX.opens ⟨n, Cm, tg, B⟩
          · have hRdiff : ¬ ∀ i, i < outR.length → outR.getD i 0 = A.getD i 0 := fun h => by
              have h9 := hex
              obtain ⟨i, hi, hf⟩ := h9
              exact fR0 i hi hf (hr i (by omega)) (h i (by omega))
            have hRn : ¬ (∃ i, i < B.length ∧ RecX.near ⟨n, Skl, B⟩ i = false) := fun ⟨i, hi, h⟩ => by have := hr i hi; rw [h] at this; cases this
            have hOdiff : ¬ ∀ i, i < outO.length → outO.getD i 0 = M.getD i 0 := fun h => by
              have h9 := hex
              obtain ⟨i, hi, hf⟩ := h9
              exact fO0 i hi hf (ho.1 i (show i < B.length by omega)) (h i (by omega))
            have hOn : ¬ ¬ OpX.opens ⟨n, Cm, tg, B⟩ := not_not_intro ho
            refine ⟨⟨n, Skl, B⟩, ⟨hk, hB1, hB4, hSB, bB, bSk⟩, Ent.of_wvs ?_, ?_, ?_⟩
            · cbv
              repeat' first | apply And.intro | exact trivial | exact SameS.mk rfl | exact SameI.mk (by with_reducible rfl) | exact SameN.mk (by with_reducible rfl) | exact SameL.mk (by with_reducible rfl) | exact SameB.mk (by with_reducible rfl) | exact LeN.mk (by with_reducible exact Nat.le_refl _) | apply SameI.mk | apply SameN.mk | apply SameL.mk | apply SameB.mk | apply LeN.mk
              all_goals first | rfl | exact (ofN_succ _).symm | (simp only [toNat_ofN, NX.v, IX.v, Nat.le_refl]; done) | ((try simp only [toNat_ofN, NX.v, IX.v, nadd, nsub]); omega) | skip
              all_goals first | exact Nat.le_refl _ | exact hAl | exact hAl.symm | exact hBl | exact hBl.symm | exact hSl2 | exact hSl2.symm | exact Nat.le_of_eq hAl | exact Nat.le_of_eq hAl.symm | exact Nat.le_of_eq hBl | exact Nat.le_of_eq hBl.symm | exact Nat.le_of_eq hSl2 | exact Nat.le_of_eq hSl2.symm | exact congrArg nums hA.symm | exact congrArg nums hB.symm | exact congrArg nums hSl.symm | exact eSk | exact eCm | exact hSkll | exact hSkll.symm | exact hCmll | exact hCmll.symm | exact Nat.le_of_eq hSkll | exact Nat.le_of_eq hCmll | exact congrArg ofN hml | exact htg.symm | exact hml | exact hml.symm | exact Nat.le_of_eq hml | exact Nat.le_of_eq hml.symm | exact hoRl | exact hoRl.symm | exact hoOl | exact hoOl.symm | exact hoRA | exact hoRA.symm | exact hoOM | exact hoOM.symm | exact Nat.le_of_eq hoRl | exact Nat.le_of_eq hoRA | exact Nat.le_of_eq hoOM | exact Nat.le_of_eq hoOl | exact congrArg nums hoR.symm | exact congrArg nums hoO.symm | rfl
            · cbv
              repeat' first | apply And.intro | exact trivial | exact SameS.mk rfl | exact SameI.mk (by with_reducible rfl) | exact SameN.mk (by with_reducible rfl) | exact SameL.mk (by with_reducible rfl) | exact SameB.mk (by with_reducible rfl) | exact LeN.mk (by with_reducible exact Nat.le_refl _) | apply SameI.mk | apply SameN.mk | apply SameL.mk | apply SameB.mk | apply LeN.mk
              all_goals first | rfl | exact (ofN_succ _).symm | (simp only [toNat_ofN, NX.v, IX.v, Nat.le_refl]; done) | ((try simp only [toNat_ofN, NX.v, IX.v, nadd, nsub]); omega) | skip
              all_goals first | exact Nat.le_refl _ | exact hAl | exact hAl.symm | exact hBl | exact hBl.symm | exact hSl2 | exact hSl2.symm | exact Nat.le_of_eq hAl | exact Nat.le_of_eq hAl.symm | exact Nat.le_of_eq hBl | exact Nat.le_of_eq hBl.symm | exact Nat.le_of_eq hSl2 | exact Nat.le_of_eq hSl2.symm | exact congrArg nums hA.symm | exact congrArg nums hB.symm | exact congrArg nums hSl.symm | exact eSk | exact eCm | exact hSkll | exact hSkll.symm | exact hCmll | exact hCmll.symm | exact Nat.le_of_eq hSkll | exact Nat.le_of_eq hCmll | exact congrArg ofN hml | exact htg.symm | exact hml | exact hml.symm | exact Nat.le_of_eq hml | exact Nat.le_of_eq hml.symm | exact hoRl | exact hoRl.symm | exact hoOl | exact hoOl.symm | exact hoRA | exact hoRA.symm | exact hoOM | exact hoOM.symm | exact Nat.le_of_eq hoRl | exact Nat.le_of_eq hoRA | exact Nat.le_of_eq hoOM | exact Nat.le_of_eq hoOl | exact congrArg nums hoR.symm | exact congrArg nums hoO.symm | rfl
            cbv
            refine skipR hRn ?_
            intro _
            cbv
            refine ⟨⟨n, Cm, tg, B⟩, ⟨hk, hB1, hB4, hCB, bB, bCm⟩, Ent.of_wvs ?_, ?_, ?_⟩
            · cbv
              repeat' first | apply And.intro | exact trivial | exact SameS.mk rfl | exact SameI.mk (by with_reducible rfl) | exact SameN.mk (by with_reducible rfl) | exact SameL.mk (by with_reducible rfl) | exact SameB.mk (by with_reducible rfl) | exact LeN.mk (by with_reducible exact Nat.le_refl _) | apply SameI.mk | apply SameN.mk | apply SameL.mk | apply SameB.mk | apply LeN.mk
              all_goals first | rfl | exact (ofN_succ _).symm | (simp only [toNat_ofN, NX.v, IX.v, Nat.le_refl]; done) | ((try simp only [toNat_ofN, NX.v, IX.v, nadd, nsub]); omega) | skip
              all_goals first | exact Nat.le_refl _ | exact hAl | exact hAl.symm | exact hBl | exact hBl.symm | exact hSl2 | exact hSl2.symm | exact Nat.le_of_eq hAl | exact Nat.le_of_eq hAl.symm | exact Nat.le_of_eq hBl | exact Nat.le_of_eq hBl.symm | exact Nat.le_of_eq hSl2 | exact Nat.le_of_eq hSl2.symm | exact congrArg nums hA.symm | exact congrArg nums hB.symm | exact congrArg nums hSl.symm | exact eSk | exact eCm | exact hSkll | exact hSkll.symm | exact hCmll | exact hCmll.symm | exact Nat.le_of_eq hSkll | exact Nat.le_of_eq hCmll | exact congrArg ofN hml | exact htg.symm | exact hml | exact hml.symm | exact Nat.le_of_eq hml | exact Nat.le_of_eq hml.symm | exact hoRl | exact hoRl.symm | exact hoOl | exact hoOl.symm | exact hoRA | exact hoRA.symm | exact hoOM | exact hoOM.symm | exact Nat.le_of_eq hoRl | exact Nat.le_of_eq hoRA | exact Nat.le_of_eq hoOM | exact Nat.le_of_eq hoOl | exact congrArg nums hoR.symm | exact congrArg nums hoO.symm | rfl
            · cbv
              repeat' first | apply And.intro | exact trivial | exact SameS.mk rfl | exact SameI.mk (by with_reducible rfl) | exact SameN.mk (by with_reducible rfl) | exact SameL.mk (by with_reducible rfl) | exact SameB.mk (by with_reducible rfl) | exact LeN.mk (by with_reducible exact Nat.le_refl _) | apply SameI.mk | apply SameN.mk | apply SameL.mk | apply SameB.mk | apply LeN.mk
              all_goals first | rfl | exact (ofN_succ _).symm | (simp only [toNat_ofN, NX.v, IX.v, Nat.le_refl]; done) | ((try simp only [toNat_ofN, NX.v, IX.v, nadd, nsub]); omega) | skip
              all_goals first | exact Nat.le_refl _ | exact hAl | exact hAl.symm | exact hBl | exact hBl.symm | exact hSl2 | exact hSl2.symm | exact Nat.le_of_eq hAl | exact Nat.le_of_eq hAl.symm | exact Nat.le_of_eq hBl | exact Nat.le_of_eq hBl.symm | exact Nat.le_of_eq hSl2 | exact Nat.le_of_eq hSl2.symm | exact congrArg nums hA.symm | exact congrArg nums hB.symm | exact congrArg nums hSl.symm | exact eSk | exact eCm | exact hSkll | exact hSkll.symm | exact hCmll | exact hCmll.symm | exact Nat.le_of_eq hSkll | exact Nat.le_of_eq hCmll | exact congrArg ofN hml | exact htg.symm | exact hml | exact hml.symm | exact Nat.le_of_eq hml | exact Nat.le_of_eq hml.symm | exact hoRl | exact hoRl.symm | exact hoOl | exact hoOl.symm | exact hoRA | exact hoRA.symm | exact hoOM | exact hoOM.symm | exact Nat.le_of_eq hoRl | exact Nat.le_of_eq hoRA | exact Nat.le_of_eq hoOM | exact Nat.le_of_eq hoOl | exact congrArg nums hoR.symm | exact congrArg nums hoO.symm | rfl
            cbv
            refine skipR hOn ?_
            intro _
            cbv
            refine ⟨⟨outR, A, true⟩, ⟨hoRA, hoR1000⟩, Ent.of_wvs ?_, ?_, ?_⟩
            · cbv
              repeat' first | apply And.intro | exact trivial | exact SameS.mk rfl | exact SameI.mk (by with_reducible rfl) | exact SameN.mk (by with_reducible rfl) | exact SameL.mk (by with_reducible rfl) | exact SameB.mk (by with_reducible rfl) | exact LeN.mk (by with_reducible exact Nat.le_refl _) | apply SameI.mk | apply SameN.mk | apply SameL.mk | apply SameB.mk | apply LeN.mk
              all_goals first | rfl | exact (ofN_succ _).symm | (simp only [toNat_ofN, NX.v, IX.v, Nat.le_refl]; done) | ((try simp only [toNat_ofN, NX.v, IX.v, nadd, nsub]); omega) | skip
              all_goals first | exact Nat.le_refl _ | exact hAl | exact hAl.symm | exact hBl | exact hBl.symm | exact hSl2 | exact hSl2.symm | exact Nat.le_of_eq hAl | exact Nat.le_of_eq hAl.symm | exact Nat.le_of_eq hBl | exact Nat.le_of_eq hBl.symm | exact Nat.le_of_eq hSl2 | exact Nat.le_of_eq hSl2.symm | exact congrArg nums hA.symm | exact congrArg nums hB.symm | exact congrArg nums hSl.symm | exact eSk | exact eCm | exact hSkll | exact hSkll.symm | exact hCmll | exact hCmll.symm | exact Nat.le_of_eq hSkll | exact Nat.le_of_eq hCmll | exact congrArg ofN hml | exact htg.symm | exact hml | exact hml.symm | exact Nat.le_of_eq hml | exact Nat.le_of_eq hml.symm | exact hoRl | exact hoRl.symm | exact hoOl | exact hoOl.symm | exact hoRA | exact hoRA.symm | exact hoOM | exact hoOM.symm | exact Nat.le_of_eq hoRl | exact Nat.le_of_eq hoRA | exact Nat.le_of_eq hoOM | exact Nat.le_of_eq hoOl | exact congrArg nums hoR.symm | exact congrArg nums hoO.symm | rfl
            · cbv
              repeat' first | apply And.intro | exact trivial | exact SameS.mk rfl | exact SameI.mk (by with_reducible rfl) | exact SameN.mk (by with_reducible rfl) | exact SameL.mk (by with_reducible rfl) | exact SameB.mk (by with_reducible rfl) | exact LeN.mk (by with_reducible exact Nat.le_refl _) | apply SameI.mk | apply SameN.mk | apply SameL.mk | apply SameB.mk | apply LeN.mk
              all_goals first | rfl | exact (ofN_succ _).symm | (simp only [toNat_ofN, NX.v, IX.v, Nat.le_refl]; done) | ((try simp only [toNat_ofN, NX.v, IX.v, nadd, nsub]); omega) | skip
              all_goals first | exact Nat.le_refl _ | exact hAl | exact hAl.symm | exact hBl | exact hBl.symm | exact hSl2 | exact hSl2.symm | exact Nat.le_of_eq hAl | exact Nat.le_of_eq hAl.symm | exact Nat.le_of_eq hBl | exact Nat.le_of_eq hBl.symm | exact Nat.le_of_eq hSl2 | exact Nat.le_of_eq hSl2.symm | exact congrArg nums hA.symm | exact congrArg nums hB.symm | exact congrArg nums hSl.symm | exact eSk | exact eCm | exact hSkll | exact hSkll.symm | exact hCmll | exact hCmll.symm | exact Nat.le_of_eq hSkll | exact Nat.le_of_eq hCmll | exact congrArg ofN hml | exact htg.symm | exact hml | exact hml.symm | exact Nat.le_of_eq hml | exact Nat.le_of_eq hml.symm | exact hoRl | exact hoRl.symm | exact hoOl | exact hoOl.symm | exact hoRA | exact hoRA.symm | exact hoOM | exact hoOM.symm | exact Nat.le_of_eq hoRl | exact Nat.le_of_eq hoRA | exact Nat.le_of_eq hoOM | exact Nat.le_of_eq hoOl | exact congrArg nums hoR.symm | exact congrArg nums hoO.symm | rfl
            intro q hq
            have hqv : q = false := by cases q; rfl; exact absurd (hq.1 rfl) hRdiff
            subst hqv
            cbv
            refine ⟨⟨outO, M, false⟩, ⟨hoOM, hoO1000⟩, Ent.of_wvs ?_, ?_, ?_⟩
            · cbv
              repeat' first | apply And.intro | exact trivial | exact SameS.mk rfl | exact SameI.mk (by with_reducible rfl) | exact SameN.mk (by with_reducible rfl) | exact SameL.mk (by with_reducible rfl) | exact SameB.mk (by with_reducible rfl) | exact LeN.mk (by with_reducible exact Nat.le_refl _) | apply SameI.mk | apply SameN.mk | apply SameL.mk | apply SameB.mk | apply LeN.mk
              all_goals first | rfl | exact (ofN_succ _).symm | (simp only [toNat_ofN, NX.v, IX.v, Nat.le_refl]; done) | ((try simp only [toNat_ofN, NX.v, IX.v, nadd, nsub]); omega) | skip
              all_goals first | exact Nat.le_refl _ | exact hAl | exact hAl.symm | exact hBl | exact hBl.symm | exact hSl2 | exact hSl2.symm | exact Nat.le_of_eq hAl | exact Nat.le_of_eq hAl.symm | exact Nat.le_of_eq hBl | exact Nat.le_of_eq hBl.symm | exact Nat.le_of_eq hSl2 | exact Nat.le_of_eq hSl2.symm | exact congrArg nums hA.symm | exact congrArg nums hB.symm | exact congrArg nums hSl.symm | exact eSk | exact eCm | exact hSkll | exact hSkll.symm | exact hCmll | exact hCmll.symm | exact Nat.le_of_eq hSkll | exact Nat.le_of_eq hCmll | exact congrArg ofN hml | exact htg.symm | exact hml | exact hml.symm | exact Nat.le_of_eq hml | exact Nat.le_of_eq hml.symm | exact hoRl | exact hoRl.symm | exact hoOl | exact hoOl.symm | exact hoRA | exact hoRA.symm | exact hoOM | exact hoOM.symm | exact Nat.le_of_eq hoRl | exact Nat.le_of_eq hoRA | exact Nat.le_of_eq hoOM | exact Nat.le_of_eq hoOl | exact congrArg nums hoR.symm | exact congrArg nums hoO.symm | rfl
            · cbv
              repeat' first | apply And.intro | exact trivial | exact SameS.mk rfl | exact SameI.mk (by with_reducible rfl) | exact SameN.mk (by with_reducible rfl) | exact SameL.mk (by with_reducible rfl) | exact SameB.mk (by with_reducible rfl) | exact LeN.mk (by with_reducible exact Nat.le_refl _) | apply SameI.mk | apply SameN.mk | apply SameL.mk | apply SameB.mk | apply LeN.mk
              all_goals first | rfl | exact (ofN_succ _).symm | (simp only [toNat_ofN, NX.v, IX.v, Nat.le_refl]; done) | ((try simp only [toNat_ofN, NX.v, IX.v, nadd, nsub]); omega) | skip
              all_goals first | exact Nat.le_refl _ | exact hAl | exact hAl.symm | exact hBl | exact hBl.symm | exact hSl2 | exact hSl2.symm | exact Nat.le_of_eq hAl | exact Nat.le_of_eq hAl.symm | exact Nat.le_of_eq hBl | exact Nat.le_of_eq hBl.symm | exact Nat.le_of_eq hSl2 | exact Nat.le_of_eq hSl2.symm | exact congrArg nums hA.symm | exact congrArg nums hB.symm | exact congrArg nums hSl.symm | exact eSk | exact eCm | exact hSkll | exact hSkll.symm | exact hCmll | exact hCmll.symm | exact Nat.le_of_eq hSkll | exact Nat.le_of_eq hCmll | exact congrArg ofN hml | exact htg.symm | exact hml | exact hml.symm | exact Nat.le_of_eq hml | exact Nat.le_of_eq hml.symm | exact hoRl | exact hoRl.symm | exact hoOl | exact hoOl.symm | exact hoRA | exact hoRA.symm | exact hoOM | exact hoOM.symm | exact Nat.le_of_eq hoRl | exact Nat.le_of_eq hoRA | exact Nat.le_of_eq hoOM | exact Nat.le_of_eq hoOl | exact congrArg nums hoR.symm | exact congrArg nums hoO.symm | rfl
            intro q hq
            have hqv : q = false := by cases q; rfl; exact absurd (hq.1 rfl) hOdiff
            subst hqv
            cbv
            refine Br.f (fun c => ?_) (fun c => ?_)
            · cases c
            cbv
            refine Br.f (fun c => ?_) (fun c => ?_)
            · cases c
            cbv
            refine Br.f (fun c => ?_) (fun c => ?_)
            · cases c
            cbv
            refine loop_inv [1, 9, 11, 21, 238, 239] (fun (i : Nat) => i ≤ T.length) (fun i => ⟨[.undef, .sl 0 (.l 0) (.l 0) 1 (.t fun _ => T.length) (.t fun _ => T.length) false, .undef, .undef, .undef, .undef, .undef, .undef, .undef, .ptr 3 (.l 0) (.l 0), .undef, .bool (.t fun _ => true), .undef, .undef, .undef, .undef, .undef, .undef, .undef, .undef, .undef, .sl 4 (.l 0) (.l 0) 1 (.t fun _ => A.length) (.t fun _ => A.length) false, .undef, .undef, .undef, .undef, .undef, .undef, .undef, .undef, .undef, .undef, .undef, .undef, .undef, .undef, .undef, .undef, .undef, .undef, .undef, .undef, .undef, .undef, .undef, .undef, .undef, .undef, .undef, .undef, .undef, .undef, .undef, .undef, .undef, .undef, .undef, .undef, .undef, .undef, .undef, .undef, .undef, .undef, .undef, .undef, .undef, .undef, .undef, .undef, .undef, .undef, .undef, .undef, .undef, .undef, .undef, .undef, .undef, .undef, .undef, .undef, .undef, .undef, .undef, .undef, .undef, .undef, .undef, .undef, .undef, .undef, .undef, .undef, .undef, .undef, .undef, .undef, .undef, .undef, .undef, .undef, .undef, .undef, .undef, .undef, .undef, .undef, .undef, .undef, .undef, .undef, .undef, .undef, .undef, .undef, .undef, .undef, .undef, .undef, .undef, .undef, .undef, .undef, .undef, .undef, .undef, .undef, .undef, .undef, .undef, .undef, .undef, .undef, .undef, .undef, .undef, .undef, .undef, .undef, .undef, .undef, .undef, .undef, .undef, .undef, .undef, .undef, .undef, .undef, .undef, .undef, .undef, .undef, .undef, .undef, .undef, .undef, .undef, .undef, .undef, .undef, .undef, .undef, .undef, .undef, .undef, .undef, .undef, .undef, .undef, .undef, .undef, .undef, .undef, .undef, .undef, .undef, .undef, .undef, .undef, .undef, .undef, .undef, .undef, .undef, .undef, .undef, .undef, .undef, .undef, .undef, .undef, .undef, .undef, .undef, .undef, .undef, .undef, .undef, .undef, .undef, .undef, .undef, .undef, .undef, .undef, .undef, .undef, .undef, .undef, .undef, .undef, .undef, .undef, .undef, .undef, .undef, .undef, .undef, .undef, .undef, .undef, .undef, .undef, .undef, .undef, .undef, .undef, .undef, .undef, .undef, .undef, .undef, .undef, .undef, .undef, .undef, .int .i64 (.t fun _ => ofN T.length), .int .i64 (.t fun _ => ofN i), .undef, .undef, .undef, .undef, .undef, .undef, .undef, .undef, .undef, .undef, .undef, .undef, .undef, .undef, .undef, .undef, .undef, .undef, .undef, .undef, .undef, .undef, .undef],
              [some ⟨false, .rows [.int .u16] fun _ => nums T⟩, some ⟨false, .rows [.int .u16] fun _ => nums M⟩, some ⟨false, .rows [.sl [.int .u8]] fun _ => rowsC C⟩, some ⟨true, .cells [.int .i64 (.t fun _ => ofN 15), .int .i64 (.t fun _ => perm), .int .u16 (.t fun _ => pad)]⟩, some ⟨true, .rows [.int .u16] fun _ => nums A⟩]⟩) (fun i => T.length - i) 0 (Nat.zero_le _) ?_ ?_
            · cbv
              repeat' first | apply And.intro | exact trivial | exact SameS.mk rfl | exact SameI.mk (by with_reducible rfl) | exact SameN.mk (by with_reducible rfl) | exact SameL.mk (by with_reducible rfl) | exact SameB.mk (by with_reducible rfl) | exact LeN.mk (by with_reducible exact Nat.le_refl _) | apply SameI.mk | apply SameN.mk | apply SameL.mk | apply SameB.mk | apply LeN.mk
              all_goals first | rfl | exact (ofN_succ _).symm | (simp only [toNat_ofN, NX.v, IX.v, Nat.le_refl]; done) | ((try simp only [toNat_ofN, NX.v, IX.v, nadd, nsub]); omega) | skip
              all_goals first | exact Nat.le_refl _ | exact hAl | exact hAl.symm | exact hBl | exact hBl.symm | exact hSl2 | exact hSl2.symm | exact Nat.le_of_eq hAl | exact Nat.le_of_eq hAl.symm | exact Nat.le_of_eq hBl | exact Nat.le_of_eq hBl.symm | exact Nat.le_of_eq hSl2 | exact Nat.le_of_eq hSl2.symm | exact congrArg nums hA.symm | exact congrArg nums hB.symm | exact congrArg nums hSl.symm | exact eSk | exact eCm | exact hSkll | exact hSkll.symm | exact hCmll | exact hCmll.symm | exact Nat.le_of_eq hSkll | exact Nat.le_of_eq hCmll | exact congrArg ofN hml | exact htg.symm | exact hml | exact hml.symm | exact Nat.le_of_eq hml | exact Nat.le_of_eq hml.symm | exact hoRl | exact hoRl.symm | exact hoOl | exact hoOl.symm | exact hoRA | exact hoRA.symm | exact hoOM | exact hoOM.symm | exact Nat.le_of_eq hoRl | exact Nat.le_of_eq hoRA | exact Nat.le_of_eq hoOM | exact Nat.le_of_eq hoOl | exact congrArg nums hoR.symm | exact congrArg nums hoO.symm | rfl
            · intro i R hi hR
              have i0 := ofN_nonneg i
              cbv
              refine Br.mk (fun hc => ?_) (fun hc => ?_)
              · cbv
                have hi2 := lt_len hc
                have hi3 : i < A.length := by omega
                have eA := at1_nums A i
                have eT := at1_nums T i
                have hAi := bA i hi3
                have hsh := hshow i hi2
                refine Chk.mk (idx1 hi3) ?_
                cbv
                refine Chk.mk (idxN hi3) ?_
                cbv
                refine ⟨(⟨15, perm, pad⟩, ofN (A.getD i 0)), ⟨hkey, ofN_nonneg _, ofN_lt.2 hAi⟩, Ent.of_wvs ?_, trivial, ?_⟩
                · cbv
                  repeat' first | apply And.intro | exact trivial | exact SameS.mk rfl | exact SameI.mk (by with_reducible rfl) | exact SameN.mk (by with_reducible rfl) | exact SameL.mk (by with_reducible rfl) | exact SameB.mk (by with_reducible rfl) | exact LeN.mk (by with_reducible exact Nat.le_refl _) | apply SameI.mk | apply SameN.mk | apply SameL.mk | apply SameB.mk | apply LeN.mk
                  all_goals first | rfl | exact (ofN_succ _).symm | (simp only [toNat_ofN, NX.v, IX.v, Nat.le_refl]; done) | ((try simp only [toNat_ofN, NX.v, IX.v, nadd, nsub]); omega) | skip
                  all_goals exact eA
                cbv
                refine Chk.mk (idx1 hi2) ?_
                cbv
                refine Chk.mk (idxN hi2) ?_
                cbv
                refine Br.f (fun c => ?_) (fun c => ?_)
                · have c : showI ⟨15, perm, pad⟩ (ofN (A.getD i 0)) ≠ at1 (nums T) (ofN i).toNat := ne_t.1 c
                  rw [eT, hsh] at c
                  exact c rfl
                cbv
                refine Chk.mk (inc64 hi2 (by omega)) ?_
                cbv
                refine .mk (hR (i + 1) _ hi2 (by omega) ?_)
                cbv
                repeat' first | apply And.intro | exact trivial | exact SameS.mk rfl | exact SameI.mk (by with_reducible rfl) | exact SameN.mk (by with_reducible rfl) | exact SameL.mk (by with_reducible rfl) | exact SameB.mk (by with_reducible rfl) | exact LeN.mk (by with_reducible exact Nat.le_refl _) | apply SameI.mk | apply SameN.mk | apply SameL.mk | apply SameB.mk | apply LeN.mk
                all_goals first | rfl | exact (ofN_succ _).symm | (simp only [toNat_ofN, NX.v, IX.v, Nat.le_refl]; done) | ((try simp only [toNat_ofN, NX.v, IX.v, nadd, nsub]); omega) | skip
                all_goals exact aop_add.trans (ofN_succ _).symm
              · cbv
                refine .mk ?_
                cbv
                refine .mk _ _ h2 ?_ ?_
                all_goals cbv
                all_goals repeat' first | apply And.intro | exact trivial | exact SameS.mk rfl | exact SameI.mk (by with_reducible rfl) | exact SameN.mk (by with_reducible rfl) | exact SameL.mk (by with_reducible rfl) | exact SameB.mk (by with_reducible rfl) | exact LeN.mk (by with_reducible exact Nat.le_refl _) | apply SameI.mk | apply SameN.mk | apply SameL.mk | apply SameB.mk | apply LeN.mk
                all_goals first | rfl | exact (ofN_succ _).symm | (simp only [toNat_ofN, NX.v, IX.v, Nat.le_refl]; done) | ((try simp only [toNat_ofN, NX.v, IX.v, nadd, nsub]); omega) | skip
          · have hRdiff : ¬ ∀ i, i < outR.length → outR.getD i 0 = A.getD i 0 := fun h => by
              have h9 := hex
              obtain ⟨i, hi, hf⟩ := h9
              exact fR0 i hi hf (hr i (by omega)) (h i (by omega))
            have hRn : ¬ (∃ i, i < B.length ∧ RecX.near ⟨n, Skl, B⟩ i = false) := fun ⟨i, hi, h⟩ => by have := hr i hi; rw [h] at this; cases this
            have hOn : ¬ OpX.opens ⟨n, Cm, tg, B⟩ := ho
            refine ⟨⟨n, Skl, B⟩, ⟨hk, hB1, hB4, hSB, bB, bSk⟩, Ent.of_wvs ?_, ?_, ?_⟩
            · cbv
              repeat' first | apply And.intro | exact trivial | exact SameS.mk rfl | exact SameI.mk (by with_reducible rfl) | exact SameN.mk (by with_reducible rfl) | exact SameL.mk (by with_reducible rfl) | exact SameB.mk (by with_reducible rfl) | exact LeN.mk (by with_reducible exact Nat.le_refl _) | apply SameI.mk | apply SameN.mk | apply SameL.mk | apply SameB.mk | apply LeN.mk
              all_goals first | rfl | exact (ofN_succ _).symm | (simp only [toNat_ofN, NX.v, IX.v, Nat.le_refl]; done) | ((try simp only [toNat_ofN, NX.v, IX.v, nadd, nsub]); omega) | skip
              all_goals first | exact Nat.le_refl _ | exact hAl | exact hAl.symm | exact hBl | exact hBl.symm | exact hSl2 | exact hSl2.symm | exact Nat.le_of_eq hAl | exact Nat.le_of_eq hAl.symm | exact Nat.le_of_eq hBl | exact Nat.le_of_eq hBl.symm | exact Nat.le_of_eq hSl2 | exact Nat.le_of_eq hSl2.symm | exact congrArg nums hA.symm | exact congrArg nums hB.symm | exact congrArg nums hSl.symm | exact eSk | exact eCm | exact hSkll | exact hSkll.symm | exact hCmll | exact hCmll.symm | exact Nat.le_of_eq hSkll | exact Nat.le_of_eq hCmll | exact congrArg ofN hml | exact htg.symm | exact hml | exact hml.symm | exact Nat.le_of_eq hml | exact Nat.le_of_eq hml.symm | exact hoRl | exact hoRl.symm | exact hoOl | exact hoOl.symm | exact hoRA | exact hoRA.symm | exact hoOM | exact hoOM.symm | exact Nat.le_of_eq hoRl | exact Nat.le_of_eq hoRA | exact Nat.le_of_eq hoOM | exact Nat.le_of_eq hoOl | exact congrArg nums hoR.symm | exact congrArg nums hoO.symm | rfl
            · cbv
              repeat' first | apply And.intro | exact trivial | exact SameS.mk rfl | exact SameI.mk (by with_reducible rfl) | exact SameN.mk (by with_reducible rfl) | exact SameL.mk (by with_reducible rfl) | exact SameB.mk (by with_reducible rfl) | exact LeN.mk (by with_reducible exact Nat.le_refl _) | apply SameI.mk | apply SameN.mk | apply SameL.mk | apply SameB.mk | apply LeN.mk
              all_goals first | rfl | exact (ofN_succ _).symm | (simp only [toNat_ofN, NX.v, IX.v, Nat.le_refl]; done) | ((try simp only [toNat_ofN, NX.v, IX.v, nadd, nsub]); omega) | skip
              all_goals first | exact Nat.le_refl _ | exact hAl | exact hAl.symm | exact hBl | exact hBl.symm | exact hSl2 | exact hSl2.symm | exact Nat.le_of_eq hAl | exact Nat.le_of_eq hAl.symm | exact Nat.le_of_eq hBl | exact Nat.le_of_eq hBl.symm | exact Nat.le_of_eq hSl2 | exact Nat.le_of_eq hSl2.symm | exact congrArg nums hA.symm | exact congrArg nums hB.symm | exact congrArg nums hSl.symm | exact eSk | exact eCm | exact hSkll | exact hSkll.symm | exact hCmll | exact hCmll.symm | exact Nat.le_of_eq hSkll | exact Nat.le_of_eq hCmll | exact congrArg ofN hml | exact htg.symm | exact hml | exact hml.symm | exact Nat.le_of_eq hml | exact Nat.le_of_eq hml.symm | exact hoRl | exact hoRl.symm | exact hoOl | exact hoOl.symm | exact hoRA | exact hoRA.symm | exact hoOM | exact hoOM.symm | exact Nat.le_of_eq hoRl | exact Nat.le_of_eq hoRA | exact Nat.le_of_eq hoOM | exact Nat.le_of_eq hoOl | exact congrArg nums hoR.symm | exact congrArg nums hoO.symm | rfl
            cbv
            refine skipR hRn ?_
            intro _
            cbv
            refine ⟨⟨n, Cm, tg, B⟩, ⟨hk, hB1, hB4, hCB, bB, bCm⟩, Ent.of_wvs ?_, ?_, ?_⟩
            · cbv
              repeat' first | apply And.intro | exact trivial | exact SameS.mk rfl | exact SameI.mk (by with_reducible rfl) | exact SameN.mk (by with_reducible rfl) | exact SameL.mk (by with_reducible rfl) | exact SameB.mk (by with_reducible rfl) | exact LeN.mk (by with_reducible exact Nat.le_refl _) | apply SameI.mk | apply SameN.mk | apply SameL.mk | apply SameB.mk | apply LeN.mk
              all_goals first | rfl | exact (ofN_succ _).symm | (simp only [toNat_ofN, NX.v, IX.v, Nat.le_refl]; done) | ((try simp only [toNat_ofN, NX.v, IX.v, nadd, nsub]); omega) | skip
              all_goals first | exact Nat.le_refl _ | exact hAl | exact hAl.symm | exact hBl | exact hBl.symm | exact hSl2 | exact hSl2.symm | exact Nat.le_of_eq hAl | exact Nat.le_of_eq hAl.symm | exact Nat.le_of_eq hBl | exact Nat.le_of_eq hBl.symm | exact Nat.le_of_eq hSl2 | exact Nat.le_of_eq hSl2.symm | exact congrArg nums hA.symm | exact congrArg nums hB.symm | exact congrArg nums hSl.symm | exact eSk | exact eCm | exact hSkll | exact hSkll.symm | exact hCmll | exact hCmll.symm | exact Nat.le_of_eq hSkll | exact Nat.le_of_eq hCmll | exact congrArg ofN hml | exact htg.symm | exact hml | exact hml.symm | exact Nat.le_of_eq hml | exact Nat.le_of_eq hml.symm | exact hoRl | exact hoRl.symm | exact hoOl | exact hoOl.symm | exact hoRA | exact hoRA.symm | exact hoOM | exact hoOM.symm | exact Nat.le_of_eq hoRl | exact Nat.le_of_eq hoRA | exact Nat.le_of_eq hoOM | exact Nat.le_of_eq hoOl | exact congrArg nums hoR.symm | exact congrArg nums hoO.symm | rfl
            · cbv
              repeat' first | apply And.intro | exact trivial | exact SameS.mk rfl | exact SameI.mk (by with_reducible rfl) | exact SameN.mk (by with_reducible rfl) | exact SameL.mk (by with_reducible rfl) | exact SameB.mk (by with_reducible rfl) | exact LeN.mk (by with_reducible exact Nat.le_refl _) | apply SameI.mk | apply SameN.mk | apply SameL.mk | apply SameB.mk | apply LeN.mk
              all_goals first | rfl | exact (ofN_succ _).symm | (simp only [toNat_ofN, NX.v, IX.v, Nat.le_refl]; done) | ((try simp only [toNat_ofN, NX.v, IX.v, nadd, nsub]); omega) | skip
              all_goals first | exact Nat.le_refl _ | exact hAl | exact hAl.symm | exact hBl | exact hBl.symm | exact hSl2 | exact hSl2.symm | exact Nat.le_of_eq hAl | exact Nat.le_of_eq hAl.symm | exact Nat.le_of_eq hBl | exact Nat.le_of_eq hBl.symm | exact Nat.le_of_eq hSl2 | exact Nat.le_of_eq hSl2.symm | exact congrArg nums hA.symm | exact congrArg nums hB.symm | exact congrArg nums hSl.symm | exact eSk | exact eCm | exact hSkll | exact hSkll.symm | exact hCmll | exact hCmll.symm | exact Nat.le_of_eq hSkll | exact Nat.le_of_eq hCmll | exact congrArg ofN hml | exact htg.symm | exact hml | exact hml.symm | exact Nat.le_of_eq hml | exact Nat.le_of_eq hml.symm | exact hoRl | exact hoRl.symm | exact hoOl | exact hoOl.symm | exact hoRA | exact hoRA.symm | exact hoOM | exact hoOM.symm | exact Nat.le_of_eq hoRl | exact Nat.le_of_eq hoRA | exact Nat.le_of_eq hoOM | exact Nat.le_of_eq hoOl | exact congrArg nums hoR.symm | exact congrArg nums hoO.symm | rfl
            cbv
            refine skipL hOn ?_
            intro _
            cbv
            refine ⟨⟨outR, A, true⟩, ⟨hoRA, hoR1000⟩, Ent.of_wvs ?_, ?_, ?_⟩
            · cbv
              repeat' first | apply And.intro | exact trivial | exact SameS.mk rfl | exact SameI.mk (by with_reducible rfl) | exact SameN.mk (by with_reducible rfl) | exact SameL.mk (by with_reducible rfl) | exact SameB.mk (by with_reducible rfl) | exact LeN.mk (by with_reducible exact Nat.le_refl _) | apply SameI.mk | apply SameN.mk | apply SameL.mk | apply SameB.mk | apply LeN.mk
              all_goals first | rfl | exact (ofN_succ _).symm | (simp only [toNat_ofN, NX.v, IX.v, Nat.le_refl]; done) | ((try simp only [toNat_ofN, NX.v, IX.v, nadd, nsub]); omega) | skip
              all_goals first | exact Nat.le_refl _ | exact hAl | exact hAl.symm | exact hBl | exact hBl.symm | exact hSl2 | exact hSl2.symm | exact Nat.le_of_eq hAl | exact Nat.le_of_eq hAl.symm | exact Nat.le_of_eq hBl | exact Nat.le_of_eq hBl.symm | exact Nat.le_of_eq hSl2 | exact Nat.le_of_eq hSl2.symm | exact congrArg nums hA.symm | exact congrArg nums hB.symm | exact congrArg nums hSl.symm | exact eSk | exact eCm | exact hSkll | exact hSkll.symm | exact hCmll | exact hCmll.symm | exact Nat.le_of_eq hSkll | exact Nat.le_of_eq hCmll | exact congrArg ofN hml | exact htg.symm | exact hml | exact hml.symm | exact Nat.le_of_eq hml | exact Nat.le_of_eq hml.symm | exact hoRl | exact hoRl.symm | exact hoOl | exact hoOl.symm | exact hoRA | exact hoRA.symm | exact hoOM | exact hoOM.symm | exact Nat.le_of_eq hoRl | exact Nat.le_of_eq hoRA | exact Nat.le_of_eq hoOM | exact Nat.le_of_eq hoOl | exact congrArg nums hoR.symm | exact congrArg nums hoO.symm | rfl
            · cbv
              repeat' first | apply And.intro | exact trivial | exact SameS.mk rfl | exact SameI.mk (by with_reducible rfl) | exact SameN.mk (by with_reducible rfl) | exact SameL.mk (by with_reducible rfl) | exact SameB.mk (by with_reducible rfl) | exact LeN.mk (by with_reducible exact Nat.le_refl _) | apply SameI.mk | apply SameN.mk | apply SameL.mk | apply SameB.mk | apply LeN.mk
              all_goals first | rfl | exact (ofN_succ _).symm | (simp only [toNat_ofN, NX.v, IX.v, Nat.le_refl]; done) | ((try simp only [toNat_ofN, NX.v, IX.v, nadd, nsub]); omega) | skip
              all_goals first | exact Nat.le_refl _ | exact hAl | exact hAl.symm | exact hBl | exact hBl.symm | exact hSl2 | exact hSl2.symm | exact Nat.le_of_eq hAl | exact Nat.le_of_eq hAl.symm | exact Nat.le_of_eq hBl | exact Nat.le_of_eq hBl.symm | exact Nat.le_of_eq hSl2 | exact Nat.le_of_eq hSl2.symm | exact congrArg nums hA.symm | exact congrArg nums hB.symm | exact congrArg nums hSl.symm | exact eSk | exact eCm | exact hSkll | exact hSkll.symm | exact hCmll | exact hCmll.symm | exact Nat.le_of_eq hSkll | exact Nat.le_of_eq hCmll | exact congrArg ofN hml | exact htg.symm | exact hml | exact hml.symm | exact Nat.le_of_eq hml | exact Nat.le_of_eq hml.symm | exact hoRl | exact hoRl.symm | exact hoOl | exact hoOl.symm | exact hoRA | exact hoRA.symm | exact hoOM | exact hoOM.symm | exact Nat.le_of_eq hoRl | exact Nat.le_of_eq hoRA | exact Nat.le_of_eq hoOM | exact Nat.le_of_eq hoOl | exact congrArg nums hoR.symm | exact congrArg nums hoO.symm | rfl
            intro q hq
            have hqv : q = false := by cases q; rfl; exact absurd (hq.1 rfl) hRdiff
            subst hqv
            cbv
            refine Br.f (fun c => ?_) (fun c => ?_)
            · cases c
            cbv
            refine Br.f (fun c => ?_) (fun c => ?_)
            · cases c
            cbv
            refine Br.f (fun c => ?_) (fun c => ?_)
            · cases c
            cbv
            refine loop_inv [1, 9, 11, 21, 238, 239] (fun (i : Nat) => i ≤ T.length) (fun i => ⟨[.undef, .sl 0 (.l 0) (.l 0) 1 (.t fun _ => T.length) (.t fun _ => T.length) false, .undef, .undef, .undef, .undef, .undef, .undef, .undef, .ptr 3 (.l 0) (.l 0), .undef, .bool (.t fun _ => true), .undef, .undef, .undef, .undef, .undef, .undef, .undef, .undef, .undef, .sl 4 (.l 0) (.l 0) 1 (.t fun _ => A.length) (.t fun _ => A.length) false, .undef, .undef, .undef, .undef, .undef, .undef, .undef, .undef, .undef, .undef, .undef, .undef, .undef, .undef, .undef, .undef, .undef, .undef, .undef, .undef, .undef, .undef, .undef, .undef, .undef, .undef, .undef, .undef, .undef, .undef, .undef, .undef, .undef, .undef, .undef, .undef, .undef, .undef, .undef, .undef, .undef, .undef, .undef, .undef, .undef, .undef, .undef, .undef, .undef, .undef, .undef, .undef, .undef, .undef, .undef, .undef, .undef, .undef, .undef, .undef, .undef, .undef, .undef, .undef, .undef, .undef, .undef, .undef, .undef, .undef, .undef, .undef, .undef, .undef, .undef, .undef, .undef, .undef, .undef, .undef, .undef, .undef, .undef, .undef, .undef, .undef, .undef, .undef, .undef, .undef, .undef, .undef, .undef, .undef, .undef, .undef, .undef, .undef, .undef, .undef, .undef, .undef, .undef, .undef, .undef, .undef, .undef, .undef, .undef, .undef, .undef, .undef, .undef, .undef, .undef, .undef, .undef, .undef, .undef, .undef, .undef, .undef, .undef, .undef, .undef, .undef, .undef, .undef, .undef, .undef, .undef, .undef, .undef, .undef, .undef, .undef, .undef, .undef, .undef, .undef, .undef, .undef, .undef, .undef, .undef, .undef, .undef, .undef, .undef, .undef, .undef, .undef, .undef, .undef, .undef, .undef, .undef, .undef, .undef, .undef, .undef, .undef, .undef, .undef, .undef, .undef, .undef, .undef, .undef, .undef, .undef, .undef, .undef, .undef, .undef, .undef, .undef, .undef, .undef, .undef, .undef, .undef, .undef, .undef, .undef, .undef, .undef, .undef, .undef, .undef, .undef, .undef, .undef, .undef, .undef, .undef, .undef, .undef, .undef, .undef, .undef, .undef, .undef, .undef, .undef, .undef, .undef, .undef, .undef, .undef, .undef, .undef, .undef, .undef, .undef, .undef, .int .i64 (.t fun _ => ofN T.length), .int .i64 (.t fun _ => ofN i), .undef, .undef, .undef, .undef, .undef, .undef, .undef, .undef, .undef, .undef, .undef, .undef, .undef, .undef, .undef, .undef, .undef, .undef, .undef, .undef, .undef, .undef, .undef],
              [some ⟨false, .rows [.int .u16] fun _ => nums T⟩, some ⟨false, .rows [.int .u16] fun _ => nums M⟩, some ⟨false, .rows [.sl [.int .u8]] fun _ => rowsC C⟩, some ⟨true, .cells [.int .i64 (.t fun _ => ofN 15), .int .i64 (.t fun _ => perm), .int .u16 (.t fun _ => pad)]⟩, some ⟨true, .rows [.int .u16] fun _ => nums A⟩]⟩) (fun i => T.length - i) 0 (Nat.zero_le _) ?_ ?_
            · cbv
              repeat' first | apply And.intro | exact trivial | exact SameS.mk rfl | exact SameI.mk (by with_reducible rfl) | exact SameN.mk (by with_reducible rfl) | exact SameL.mk (by with_reducible rfl) | exact SameB.mk (by with_reducible rfl) | exact LeN.mk (by with_reducible exact Nat.le_refl _) | apply SameI.mk | apply SameN.mk | apply SameL.mk | apply SameB.mk | apply LeN.mk
              all_goals first | rfl | exact (ofN_succ _).symm | (simp only [toNat_ofN, NX.v, IX.v, Nat.le_refl]; done) | ((try simp only [toNat_ofN, NX.v, IX.v, nadd, nsub]); omega) | skip
              all_goals first | exact Nat.le_refl _ | exact hAl | exact hAl.symm | exact hBl | exact hBl.symm | exact hSl2 | exact hSl2.symm | exact Nat.le_of_eq hAl | exact Nat.le_of_eq hAl.symm | exact Nat.le_of_eq hBl | exact Nat.le_of_eq hBl.symm | exact Nat.le_of_eq hSl2 | exact Nat.le_of_eq hSl2.symm | exact congrArg nums hA.symm | exact congrArg nums hB.symm | exact congrArg nums hSl.symm | exact eSk | exact eCm | exact hSkll | exact hSkll.symm | exact hCmll | exact hCmll.symm | exact Nat.le_of_eq hSkll | exact Nat.le_of_eq hCmll | exact congrArg ofN hml | exact htg.symm | exact hml | exact hml.symm | exact Nat.le_of_eq hml | exact Nat.le_of_eq hml.symm | exact hoRl | exact hoRl.symm | exact hoOl | exact hoOl.symm | exact hoRA | exact hoRA.symm | exact hoOM | exact hoOM.symm | exact Nat.le_of_eq hoRl | exact Nat.le_of_eq hoRA | exact Nat.le_of_eq hoOM | exact Nat.le_of_eq hoOl | exact congrArg nums hoR.symm | exact congrArg nums hoO.symm | rfl
            · intro i R hi hR
              have i0 := ofN_nonneg i
              cbv
              refine Br.mk (fun hc => ?_) (fun hc => ?_)
              · cbv
                have hi2 := lt_len hc
                have hi3 : i < A.length := by omega
                have eA := at1_nums A i
                have eT := at1_nums T i
                have hAi := bA i hi3
                have hsh := hshow i hi2
                refine Chk.mk (idx1 hi3) ?_
                cbv
                refine Chk.mk (idxN hi3) ?_
                cbv
                refine ⟨(⟨15, perm, pad⟩, ofN (A.getD i 0)), ⟨hkey, ofN_nonneg _, ofN_lt.2 hAi⟩, Ent.of_wvs ?_, trivial, ?_⟩
                · cbv
                  repeat' first | apply And.intro | exact trivial | exact SameS.mk rfl | exact SameI.mk (by with_reducible rfl) | exact SameN.mk (by with_reducible rfl) | exact SameL.mk (by with_reducible rfl) | exact SameB.mk (by with_reducible rfl) | exact LeN.mk (by with_reducible exact Nat.le_refl _) | apply SameI.mk | apply SameN.mk | apply SameL.mk | apply SameB.mk | apply LeN.mk
                  all_goals first | rfl | exact (ofN_succ _).symm | (simp only [toNat_ofN, NX.v, IX.v, Nat.le_refl]; done) | ((try simp only [toNat_ofN, NX.v, IX.v, nadd, nsub]); omega) | skip
                  all_goals exact eA
                cbv
                refine Chk.mk (idx1 hi2) ?_
                cbv
                refine Chk.mk (idxN hi2) ?_
                cbv
                refine Br.f (fun c => ?_) (fun c => ?_)
                · have c : showI ⟨15, perm, pad⟩ (ofN (A.getD i 0)) ≠ at1 (nums T) (ofN i).toNat := ne_t.1 c
                  rw [eT, hsh] at c
                  exact c rfl
                cbv
                refine Chk.mk (inc64 hi2 (by omega)) ?_
                cbv
                refine .mk (hR (i + 1) _ hi2 (by omega) ?_)
                cbv
                repeat' first | apply And.intro | exact trivial | exact SameS.mk rfl | exact SameI.mk (by with_reducible rfl) | exact SameN.mk (by with_reducible rfl) | exact SameL.mk (by with_reducible rfl) | exact SameB.mk (by with_reducible rfl) | exact LeN.mk (by with_reducible exact Nat.le_refl _) | apply SameI.mk | apply SameN.mk | apply SameL.mk | apply SameB.mk | apply LeN.mk
                all_goals first | rfl | exact (ofN_succ _).symm | (simp only [toNat_ofN, NX.v, IX.v, Nat.le_refl]; done) | ((try simp only [toNat_ofN, NX.v, IX.v, nadd, nsub]); omega) | skip
                all_goals exact aop_add.trans (ofN_succ _).symm
              · cbv
                refine .mk ?_
                cbv
                refine .mk _ _ h2 ?_ ?_
                all_goals cbv
                all_goals repeat' first | apply And.intro | exact trivial | exact SameS.mk rfl | exact SameI.mk (by with_reducible rfl) | exact SameN.mk (by with_reducible rfl) | exact SameL.mk (by with_reducible rfl) | exact SameB.mk (by with_reducible rfl) | exact LeN.mk (by with_reducible exact Nat.le_refl _) | apply SameI.mk | apply SameN.mk | apply SameL.mk | apply SameB.mk | apply LeN.mk
                all_goals first | rfl | exact (ofN_succ _).symm | (simp only [toNat_ofN, NX.v, IX.v, Nat.le_refl]; done) | ((try simp only [toNat_ofN, NX.v, IX.v, nadd, nsub]); omega) | skip
        · by_cases ho : OpX.opens ⟨n, Cm, tg, B⟩
          · have hRn : ¬ (∀ i, i < B.length → RecX.near ⟨n, Skl, B⟩ i = true) := hr
            have hOdiff : ¬ ∀ i, i < outO.length → outO.getD i 0 = M.getD i 0 := fun h => by
              have h9 := hex
              obtain ⟨i, hi, hf⟩ := h9
              exact fO0 i hi hf (ho.1 i (show i < B.length by omega)) (h i (by omega))
            have hOn : ¬ ¬ OpX.opens ⟨n, Cm, tg, B⟩ := not_not_intro ho
            refine ⟨⟨n, Skl, B⟩, ⟨hk, hB1, hB4, hSB, bB, bSk⟩, Ent.of_wvs ?_, ?_, ?_⟩
            · cbv
              repeat' first | apply And.intro | exact trivial | exact SameS.mk rfl | exact SameI.mk (by with_reducible rfl) | exact SameN.mk (by with_reducible rfl) | exact SameL.mk (by with_reducible rfl) | exact SameB.mk (by with_reducible rfl) | exact LeN.mk (by with_reducible exact Nat.le_refl _) | apply SameI.mk | apply SameN.mk | apply SameL.mk | apply SameB.mk | apply LeN.mk
              all_goals first | rfl | exact (ofN_succ _).symm | (simp only [toNat_ofN, NX.v, IX.v, Nat.le_refl]; done) | ((try simp only [toNat_ofN, NX.v, IX.v, nadd, nsub]); omega) | skip
              all_goals first | exact Nat.le_refl _ | exact hAl | exact hAl.symm | exact hBl | exact hBl.symm | exact hSl2 | exact hSl2.symm | exact Nat.le_of_eq hAl | exact Nat.le_of_eq hAl.symm | exact Nat.le_of_eq hBl | exact Nat.le_of_eq hBl.symm | exact Nat.le_of_eq hSl2 | exact Nat.le_of_eq hSl2.symm | exact congrArg nums hA.symm | exact congrArg nums hB.symm | exact congrArg nums hSl.symm | exact eSk | exact eCm | exact hSkll | exact hSkll.symm | exact hCmll | exact hCmll.symm | exact Nat.le_of_eq hSkll | exact Nat.le_of_eq hCmll | exact congrArg ofN hml | exact htg.symm | exact hml | exact hml.symm | exact Nat.le_of_eq hml | exact Nat.le_of_eq hml.symm | exact hoRl | exact hoRl.symm | exact hoOl | exact hoOl.symm | exact hoRA | exact hoRA.symm | exact hoOM | exact hoOM.symm | exact Nat.le_of_eq hoRl | exact Nat.le_of_eq hoRA | exact Nat.le_of_eq hoOM | exact Nat.le_of_eq hoOl | exact congrArg nums hoR.symm | exact congrArg nums hoO.symm | rfl
            · cbv
              repeat' first | apply And.intro | exact trivial | exact SameS.mk rfl | exact SameI.mk (by with_reducible rfl) | exact SameN.mk (by with_reducible rfl) | exact SameL.mk (by with_reducible rfl) | exact SameB.mk (by with_reducible rfl) | exact LeN.mk (by with_reducible exact Nat.le_refl _) | apply SameI.mk | apply SameN.mk | apply SameL.mk | apply SameB.mk | apply LeN.mk
              all_goals first | rfl | exact (ofN_succ _).symm | (simp only [toNat_ofN, NX.v, IX.v, Nat.le_refl]; done) | ((try simp only [toNat_ofN, NX.v, IX.v, nadd, nsub]); omega) | skip
              all_goals first | exact Nat.le_refl _ | exact hAl | exact hAl.symm | exact hBl | exact hBl.symm | exact hSl2 | exact hSl2.symm | exact Nat.le_of_eq hAl | exact Nat.le_of_eq hAl.symm | exact Nat.le_of_eq hBl | exact Nat.le_of_eq hBl.symm | exact Nat.le_of_eq hSl2 | exact Nat.le_of_eq hSl2.symm | exact congrArg nums hA.symm | exact congrArg nums hB.symm | exact congrArg nums hSl.symm | exact eSk | exact eCm | exact hSkll | exact hSkll.symm | exact hCmll | exact hCmll.symm | exact Nat.le_of_eq hSkll | exact Nat.le_of_eq hCmll | exact congrArg ofN hml | exact htg.symm | exact hml | exact hml.symm | exact Nat.le_of_eq hml | exact Nat.le_of_eq hml.symm | exact hoRl | exact hoRl.symm | exact hoOl | exact hoOl.symm | exact hoRA | exact hoRA.symm | exact hoOM | exact hoOM.symm | exact Nat.le_of_eq hoRl | exact Nat.le_of_eq hoRA | exact Nat.le_of_eq hoOM | exact Nat.le_of_eq hoOl | exact congrArg nums hoR.symm | exact congrArg nums hoO.symm | rfl
            cbv
            refine skipL hRn ?_
            intro _
            cbv
            refine ⟨⟨n, Cm, tg, B⟩, ⟨hk, hB1, hB4, hCB, bB, bCm⟩, Ent.of_wvs ?_, ?_, ?_⟩
            · cbv
              repeat' first | apply And.intro | exact trivial | exact SameS.mk rfl | exact SameI.mk (by with_reducible rfl) | exact SameN.mk (by with_reducible rfl) | exact SameL.mk (by with_reducible rfl) | exact SameB.mk (by with_reducible rfl) | exact LeN.mk (by with_reducible exact Nat.le_refl _) | apply SameI.mk | apply SameN.mk | apply SameL.mk | apply SameB.mk | apply LeN.mk
              all_goals first | rfl | exact (ofN_succ _).symm | (simp only [toNat_ofN, NX.v, IX.v, Nat.le_refl]; done) | ((try simp only [toNat_ofN, NX.v, IX.v, nadd, nsub]); omega) | skip
              all_goals first | exact Nat.le_refl _ | exact hAl | exact hAl.symm | exact hBl | exact hBl.symm | exact hSl2 | exact hSl2.symm | exact Nat.le_of_eq hAl | exact Nat.le_of_eq hAl.symm | exact Nat.le_of_eq hBl | exact Nat.le_of_eq hBl.symm | exact Nat.le_of_eq hSl2 | exact Nat.le_of_eq hSl2.symm | exact congrArg nums hA.symm | exact congrArg nums hB.symm | exact congrArg nums hSl.symm | exact eSk | exact eCm | exact hSkll | exact hSkll.symm | exact hCmll | exact hCmll.symm | exact Nat.le_of_eq hSkll | exact Nat.le_of_eq hCmll | exact congrArg ofN hml | exact htg.symm | exact hml | exact hml.symm | exact Nat.le_of_eq hml | exact Nat.le_of_eq hml.symm | exact hoRl | exact hoRl.symm | exact hoOl | exact hoOl.symm | exact hoRA | exact hoRA.symm | exact hoOM | exact hoOM.symm | exact Nat.le_of_eq hoRl | exact Nat.le_of_eq hoRA | exact Nat.le_of_eq hoOM | exact Nat.le_of_eq hoOl | exact congrArg nums hoR.symm | exact congrArg nums hoO.symm | rfl
            · cbv
              repeat' first | apply And.intro | exact trivial | exact SameS.mk rfl | exact SameI.mk (by with_reducible rfl) | exact SameN.mk (by with_reducible rfl) | exact SameL.mk (by with_reducible rfl) | exact SameB.mk (by with_reducible rfl) | exact LeN.mk (by with_reducible exact Nat.le_refl _) | apply SameI.mk | apply SameN.mk | apply SameL.mk | apply SameB.mk | apply LeN.mk
              all_goals first | rfl | exact (ofN_succ _).symm | (simp only [toNat_ofN, NX.v, IX.v, Nat.le_refl]; done) | ((try simp only [toNat_ofN, NX.v, IX.v, nadd, nsub]); omega) | skip
              all_goals first | exact Nat.le_refl _ | exact hAl | exact hAl.symm | exact hBl | exact hBl.symm | exact hSl2 | exact hSl2.symm | exact Nat.le_of_eq hAl | exact Nat.le_of_eq hAl.symm | exact Nat.le_of_eq hBl | exact Nat.le_of_eq hBl.symm | exact Nat.le_of_eq hSl2 | exact Nat.le_of_eq hSl2.symm | exact congrArg nums hA.symm | exact congrArg nums hB.symm | exact congrArg nums hSl.symm | exact eSk | exact eCm | exact hSkll | exact hSkll.symm | exact hCmll | exact hCmll.symm | exact Nat.le_of_eq hSkll | exact Nat.le_of_eq hCmll | exact congrArg ofN hml | exact htg.symm | exact hml | exact hml.symm | exact Nat.le_of_eq hml | exact Nat.le_of_eq hml.symm | exact hoRl | exact hoRl.symm | exact hoOl | exact hoOl.symm | exact hoRA | exact hoRA.symm | exact hoOM | exact hoOM.symm | exact Nat.le_of_eq hoRl | exact Nat.le_of_eq hoRA | exact Nat.le_of_eq hoOM | exact Nat.le_of_eq hoOl | exact congrArg nums hoR.symm | exact congrArg nums hoO.symm | rfl
            cbv
            refine skipR hOn ?_
            intro _
            cbv
            refine ⟨⟨outO, M, false⟩, ⟨hoOM, hoO1000⟩, Ent.of_wvs ?_, ?_, ?_⟩
            · cbv
              repeat' first | apply And.intro | exact trivial | exact SameS.mk rfl | exact SameI.mk (by with_reducible rfl) | exact SameN.mk (by with_reducible rfl) | exact SameL.mk (by with_reducible rfl) | exact SameB.mk (by with_reducible rfl) | exact LeN.mk (by with_reducible exact Nat.le_refl _) | apply SameI.mk | apply SameN.mk | apply SameL.mk | apply SameB.mk | apply LeN.mk
              all_goals first | rfl | exact (ofN_succ _).symm | (simp only [toNat_ofN, NX.v, IX.v, Nat.le_refl]; done) | ((try simp only [toNat_ofN, NX.v, IX.v, nadd, nsub]); omega) | skip
              all_goals first | exact Nat.le_refl _ | exact hAl | exact hAl.symm | exact hBl | exact hBl.symm | exact hSl2 | exact hSl2.symm | exact Nat.le_of_eq hAl | exact Nat.le_of_eq hAl.symm | exact Nat.le_of_eq hBl | exact Nat.le_of_eq hBl.symm | exact Nat.le_of_eq hSl2 | exact Nat.le_of_eq hSl2.symm | exact congrArg nums hA.symm | exact congrArg nums hB.symm | exact congrArg nums hSl.symm | exact eSk | exact eCm | exact hSkll | exact hSkll.symm | exact hCmll | exact hCmll.symm | exact Nat.le_of_eq hSkll | exact Nat.le_of_eq hCmll | exact congrArg ofN hml | exact htg.symm | exact hml | exact hml.symm | exact Nat.le_of_eq hml | exact Nat.le_of_eq hml.symm | exact hoRl | exact hoRl.symm | exact hoOl | exact hoOl.symm | exact hoRA | exact hoRA.symm | exact hoOM | exact hoOM.symm | exact Nat.le_of_eq hoRl | exact Nat.le_of_eq hoRA | exact Nat.le_of_eq hoOM | exact Nat.le_of_eq hoOl | exact congrArg nums hoR.symm | exact congrArg nums hoO.symm | rfl
            · cbv
              repeat' first | apply And.intro | exact trivial | exact SameS.mk rfl | exact SameI.mk (by with_reducible rfl) | exact SameN.mk (by with_reducible rfl) | exact SameL.mk (by with_reducible rfl) | exact SameB.mk (by with_reducible rfl) | exact LeN.mk (by with_reducible exact Nat.le_refl _) | apply SameI.mk | apply SameN.mk | apply SameL.mk | apply SameB.mk | apply LeN.mk
              all_goals first | rfl | exact (ofN_succ _).symm | (simp only [toNat_ofN, NX.v, IX.v, Nat.le_refl]; done) | ((try simp only [toNat_ofN, NX.v, IX.v, nadd, nsub]); omega) | skip
              all_goals first | exact Nat.le_refl _ | exact hAl | exact hAl.symm | exact hBl | exact hBl.symm | exact hSl2 | exact hSl2.symm | exact Nat.le_of_eq hAl | exact Nat.le_of_eq hAl.symm | exact Nat.le_of_eq hBl | exact Nat.le_of_eq hBl.symm | exact Nat.le_of_eq hSl2 | exact Nat.le_of_eq hSl2.symm | exact congrArg nums hA.symm | exact congrArg nums hB.symm | exact congrArg nums hSl.symm | exact eSk | exact eCm | exact hSkll | exact hSkll.symm | exact hCmll | exact hCmll.symm | exact Nat.le_of_eq hSkll | exact Nat.le_of_eq hCmll | exact congrArg ofN hml | exact htg.symm | exact hml | exact hml.symm | exact Nat.le_of_eq hml | exact Nat.le_of_eq hml.symm | exact hoRl | exact hoRl.symm | exact hoOl | exact hoOl.symm | exact hoRA | exact hoRA.symm | exact hoOM | exact hoOM.symm | exact Nat.le_of_eq hoRl | exact Nat.le_of_eq hoRA | exact Nat.le_of_eq hoOM | exact Nat.le_of_eq hoOl | exact congrArg nums hoR.symm | exact congrArg nums hoO.symm | rfl
            intro q hq
            have hqv : q = false := by cases q; rfl; exact absurd (hq.1 rfl) hOdiff
            subst hqv
            cbv
            refine Br.f (fun c => ?_) (fun c => ?_)
            · cases c
            cbv
            refine Br.f (fun c => ?_) (fun c => ?_)
            · cases c
            cbv
            refine loop_inv [1, 9, 11, 21, 238, 239] (fun (i : Nat) => i ≤ T.length) (fun i => ⟨[.undef, .sl 0 (.l 0) (.l 0) 1 (.t fun _ => T.length) (.t fun _ => T.length) false, .undef, .undef, .undef, .undef, .undef, .undef, .undef, .ptr 3 (.l 0) (.l 0), .undef, .bool (.t fun _ => true), .undef, .undef, .undef, .undef, .undef, .undef, .undef, .undef, .undef, .sl 4 (.l 0) (.l 0) 1 (.t fun _ => A.length) (.t fun _ => A.length) false, .undef, .undef, .undef, .undef, .undef, .undef, .undef, .undef, .undef, .undef, .undef, .undef, .undef, .undef, .undef, .undef, .undef, .undef, .undef, .undef, .undef, .undef, .undef, .undef, .undef, .undef, .undef, .undef, .undef, .undef, .undef, .undef, .undef, .undef, .undef, .undef, .undef, .undef, .undef, .undef, .undef, .undef, .undef, .undef, .undef, .undef, .undef, .undef, .undef, .undef, .undef, .undef, .undef, .undef, .undef, .undef, .undef, .undef, .undef, .undef, .undef, .undef, .undef, .undef, .undef, .undef, .undef, .undef, .undef, .undef, .undef, .undef, .undef, .undef, .undef, .undef, .undef, .undef, .undef, .undef, .undef, .undef, .undef, .undef, .undef, .undef, .undef, .undef, .undef, .undef, .undef, .undef, .undef, .undef, .undef, .undef, .undef, .undef, .undef, .undef, .undef, .undef, .undef, .undef, .undef, .undef, .undef, .undef, .undef, .undef, .undef, .undef, .undef, .undef, .undef, .undef, .undef, .undef, .undef, .undef, .undef, .undef, .undef, .undef, .undef, .undef, .undef, .undef, .undef, .undef, .undef, .undef, .undef, .undef, .undef, .undef, .undef, .undef, .undef, .undef, .undef, .undef, .undef, .undef, .undef, .undef, .undef, .undef, .undef, .undef, .undef, .undef, .undef, .undef, .undef, .undef, .undef, .undef, .undef, .undef, .undef, .undef, .undef, .undef, .undef, .undef, .undef, .undef, .undef, .undef, .undef, .undef, .undef, .undef, .undef, .undef, .undef, .undef, .undef, .undef, .undef, .undef, .undef, .undef, .undef, .undef, .undef, .undef, .undef, .undef, .undef, .undef, .undef, .undef, .undef, .undef, .undef, .undef, .undef, .undef, .undef, .undef, .undef, .undef, .undef, .undef, .undef, .undef, .undef, .undef, .undef, .undef, .undef, .undef, .undef, .undef, .int .i64 (.t fun _ => ofN T.length), .int .i64 (.t fun _ => ofN i), .undef, .undef, .undef, .undef, .undef, .undef, .undef, .undef, .undef, .undef, .undef, .undef, .undef, .undef, .undef, .undef, .undef, .undef, .undef, .undef, .undef, .undef, .undef],
              [some ⟨false, .rows [.int .u16] fun _ => nums T⟩, some ⟨false, .rows [.int .u16] fun _ => nums M⟩, some ⟨false, .rows [.sl [.int .u8]] fun _ => rowsC C⟩, some ⟨true, .cells [.int .i64 (.t fun _ => ofN 15), .int .i64 (.t fun _ => perm), .int .u16 (.t fun _ => pad)]⟩, some ⟨true, .rows [.int .u16] fun _ => nums A⟩]⟩) (fun i => T.length - i) 0 (Nat.zero_le _) ?_ ?_
            · cbv
              repeat' first | apply And.intro | exact trivial | exact SameS.mk rfl | exact SameI.mk (by with_reducible rfl) | exact SameN.mk (by with_reducible rfl) | exact SameL.mk (by with_reducible rfl) | exact SameB.mk (by with_reducible rfl) | exact LeN.mk (by with_reducible exact Nat.le_refl _) | apply SameI.mk | apply SameN.mk | apply SameL.mk | apply SameB.mk | apply LeN.mk
              all_goals first | rfl | exact (ofN_succ _).symm | (simp only [toNat_ofN, NX.v, IX.v, Nat.le_refl]; done) | ((try simp only [toNat_ofN, NX.v, IX.v, nadd, nsub]); omega) | skip
              all_goals first | exact Nat.le_refl _ | exact hAl | exact hAl.symm | exact hBl | exact hBl.symm | exact hSl2 | exact hSl2.symm | exact Nat.le_of_eq hAl | exact Nat.le_of_eq hAl.symm | exact Nat.le_of_eq hBl | exact Nat.le_of_eq hBl.symm | exact Nat.le_of_eq hSl2 | exact Nat.le_of_eq hSl2.symm | exact congrArg nums hA.symm | exact congrArg nums hB.symm | exact congrArg nums hSl.symm | exact eSk | exact eCm | exact hSkll | exact hSkll.symm | exact hCmll | exact hCmll.symm | exact Nat.le_of_eq hSkll | exact Nat.le_of_eq hCmll | exact congrArg ofN hml | exact htg.symm | exact hml | exact hml.symm | exact Nat.le_of_eq hml | exact Nat.le_of_eq hml.symm | exact hoRl | exact hoRl.symm | exact hoOl | exact hoOl.symm | exact hoRA | exact hoRA.symm | exact hoOM | exact hoOM.symm | exact Nat.le_of_eq hoRl | exact Nat.le_of_eq hoRA | exact Nat.le_of_eq hoOM | exact Nat.le_of_eq hoOl | exact congrArg nums hoR.symm | exact congrArg nums hoO.symm | rfl
            · intro i R hi hR
              have i0 := ofN_nonneg i
              cbv
              refine Br.mk (fun hc => ?_) (fun hc => ?_)
              · cbv
                have hi2 := lt_len hc
                have hi3 : i < A.length := by omega
                have eA := at1_nums A i
                have eT := at1_nums T i
                have hAi := bA i hi3
                have hsh := hshow i hi2
                refine Chk.mk (idx1 hi3) ?_
                cbv
                refine Chk.mk (idxN hi3) ?_
                cbv
                refine ⟨(⟨15, perm, pad⟩, ofN (A.getD i 0)), ⟨hkey, ofN_nonneg _, ofN_lt.2 hAi⟩, Ent.of_wvs ?_, trivial, ?_⟩
                · cbv
                  repeat' first | apply And.intro | exact trivial | exact SameS.mk rfl | exact SameI.mk (by with_reducible rfl) | exact SameN.mk (by with_reducible rfl) | exact SameL.mk (by with_reducible rfl) | exact SameB.mk (by with_reducible rfl) | exact LeN.mk (by with_reducible exact Nat.le_refl _) | apply SameI.mk | apply SameN.mk | apply SameL.mk | apply SameB.mk | apply LeN.mk
                  all_goals first | rfl | exact (ofN_succ _).symm | (simp only [toNat_ofN, NX.v, IX.v, Nat.le_refl]; done) | ((try simp only [toNat_ofN, NX.v, IX.v, nadd, nsub]); omega) | skip
                  all_goals exact eA
                cbv
                refine Chk.mk (idx1 hi2) ?_
                cbv
                refine Chk.mk (idxN hi2) ?_
                cbv
                refine Br.f (fun c => ?_) (fun c => ?_)
                · have c : showI ⟨15, perm, pad⟩ (ofN (A.getD i 0)) ≠ at1 (nums T) (ofN i).toNat := ne_t.1 c
                  rw [eT, hsh] at c
                  exact c rfl
                cbv
                refine Chk.mk (inc64 hi2 (by omega)) ?_
                cbv
                refine .mk (hR (i + 1) _ hi2 (by omega) ?_)
                cbv
                repeat' first | apply And.intro | exact trivial | exact SameS.mk rfl | exact SameI.mk (by with_reducible rfl) | exact SameN.mk (by with_reducible rfl) | exact SameL.mk (by with_reducible rfl) | exact SameB.mk (by with_reducible rfl) | exact LeN.mk (by with_reducible exact Nat.le_refl _) | apply SameI.mk | apply SameN.mk | apply SameL.mk | apply SameB.mk | apply LeN.mk
                all_goals first | rfl | exact (ofN_succ _).symm | (simp only [toNat_ofN, NX.v, IX.v, Nat.le_refl]; done) | ((try simp only [toNat_ofN, NX.v, IX.v, nadd, nsub]); omega) | skip
                all_goals exact aop_add.trans (ofN_succ _).symm
              · cbv
                refine .mk ?_
                cbv
                refine .mk _ _ h2 ?_ ?_
                all_goals cbv
                all_goals repeat' first | apply And.intro | exact trivial | exact SameS.mk rfl | exact SameI.mk (by with_reducible rfl) | exact SameN.mk (by with_reducible rfl) | exact SameL.mk (by with_reducible rfl) | exact SameB.mk (by with_reducible rfl) | exact LeN.mk (by with_reducible exact Nat.le_refl _) | apply SameI.mk | apply SameN.mk | apply SameL.mk | apply SameB.mk | apply LeN.mk
                all_goals first | rfl | exact (ofN_succ _).symm | (simp only [toNat_ofN, NX.v, IX.v, Nat.le_refl]; done) | ((try simp only [toNat_ofN, NX.v, IX.v, nadd, nsub]); omega) | skip
          · have hRn : ¬ (∀ i, i < B.length → RecX.near ⟨n, Skl, B⟩ i = true) := hr
            have hOn : ¬ OpX.opens ⟨n, Cm, tg, B⟩ := ho
            refine ⟨⟨n, Skl, B⟩, ⟨hk, hB1, hB4, hSB, bB, bSk⟩, Ent.of_wvs ?_, ?_, ?_⟩
            · cbv
              repeat' first | apply And.intro | exact trivial | exact SameS.mk rfl | exact SameI.mk (by with_reducible rfl) | exact SameN.mk (by with_reducible rfl) | exact SameL.mk (by with_reducible rfl) | exact SameB.mk (by with_reducible rfl) | exact LeN.mk (by with_reducible exact Nat.le_refl _) | apply SameI.mk | apply SameN.mk | apply SameL.mk | apply SameB.mk | apply LeN.mk
              all_goals first | rfl | exact (ofN_succ _).symm | (simp only [toNat_ofN, NX.v, IX.v, Nat.le_refl]; done) | ((try simp only [toNat_ofN, NX.v, IX.v, nadd, nsub]); omega) | skip
              all_goals first | exact Nat.le_refl _ | exact hAl | exact hAl.symm | exact hBl | exact hBl.symm | exact hSl2 | exact hSl2.symm | exact Nat.le_of_eq hAl | exact Nat.le_of_eq hAl.symm | exact Nat.le_of_eq hBl | exact Nat.le_of_eq hBl.symm | exact Nat.le_of_eq hSl2 | exact Nat.le_of_eq hSl2.symm | exact congrArg nums hA.symm | exact congrArg nums hB.symm | exact congrArg nums hSl.symm | exact eSk | exact eCm | exact hSkll | exact hSkll.symm | exact hCmll | exact hCmll.symm | exact Nat.le_of_eq hSkll | exact Nat.le_of_eq hCmll | exact congrArg ofN hml | exact htg.symm | exact hml | exact hml.symm | exact Nat.le_of_eq hml | exact Nat.le_of_eq hml.symm | exact hoRl | exact hoRl.symm | exact hoOl | exact hoOl.symm | exact hoRA | exact hoRA.symm | exact hoOM | exact hoOM.symm | exact Nat.le_of_eq hoRl | exact Nat.le_of_eq hoRA | exact Nat.le_of_eq hoOM | exact Nat.le_of_eq hoOl | exact congrArg nums hoR.symm | exact congrArg nums hoO.symm | rfl
            · cbv
              repeat' first | apply And.intro | exact trivial | exact SameS.mk rfl | exact SameI.mk (by with_reducible rfl) | exact SameN.mk (by with_reducible rfl) | exact SameL.mk (by with_reducible rfl) | exact SameB.mk (by with_reducible rfl) | exact LeN.mk (by with_reducible exact Nat.le_refl _) | apply SameI.mk | apply SameN.mk | apply SameL.mk | apply SameB.mk | apply LeN.mk
              all_goals first | rfl | exact (ofN_succ _).symm | (simp only [toNat_ofN, NX.v, IX.v, Nat.le_refl]; done) | ((try simp only [toNat_ofN, NX.v, IX.v, nadd, nsub]); omega) | skip
              all_goals first | exact Nat.le_refl _ | exact hAl | exact hAl.symm | exact hBl | exact hBl.symm | exact hSl2 | exact hSl2.symm | exact Nat.le_of_eq hAl | exact Nat.le_of_eq hAl.symm | exact Nat.le_of_eq hBl | exact Nat.le_of_eq hBl.symm | exact Nat.le_of_eq hSl2 | exact Nat.le_of_eq hSl2.symm | exact congrArg nums hA.symm | exact congrArg nums hB.symm | exact congrArg nums hSl.symm | exact eSk | exact eCm | exact hSkll | exact hSkll.symm | exact hCmll | exact hCmll.symm | exact Nat.le_of_eq hSkll | exact Nat.le_of_eq hCmll | exact congrArg ofN hml | exact htg.symm | exact hml | exact hml.symm | exact Nat.le_of_eq hml | exact Nat.le_of_eq hml.symm | exact hoRl | exact hoRl.symm | exact hoOl | exact hoOl.symm | exact hoRA | exact hoRA.symm | exact hoOM | exact hoOM.symm | exact Nat.le_of_eq hoRl | exact Nat.le_of_eq hoRA | exact Nat.le_of_eq hoOM | exact Nat.le_of_eq hoOl | exact congrArg nums hoR.symm | exact congrArg nums hoO.symm | rfl
            cbv
            refine skipL hRn ?_
            intro _
            cbv
            refine ⟨⟨n, Cm, tg, B⟩, ⟨hk, hB1, hB4, hCB, bB, bCm⟩, Ent.of_wvs ?_, ?_, ?_⟩
            · cbv
              repeat' first | apply And.intro | exact trivial | exact SameS.mk rfl | exact SameI.mk (by with_reducible rfl) | exact SameN.mk (by with_reducible rfl) | exact SameL.mk (by with_reducible rfl) | exact SameB.mk (by with_reducible rfl) | exact LeN.mk (by with_reducible exact Nat.le_refl _) | apply SameI.mk | apply SameN.mk | apply SameL.mk | apply SameB.mk | apply LeN.mk
              all_goals first | rfl | exact (ofN_succ _).symm | (simp only [toNat_ofN, NX.v, IX.v, Nat.le_refl]; done) | ((try simp only [toNat_ofN, NX.v, IX.v, nadd, nsub]); omega) | skip
              all_goals first | exact Nat.le_refl _ | exact hAl | exact hAl.symm | exact hBl | exact hBl.symm | exact hSl2 | exact hSl2.symm | exact Nat.le_of_eq hAl | exact Nat.le_of_eq hAl.symm | exact Nat.le_of_eq hBl | exact Nat.le_of_eq hBl.symm | exact Nat.le_of_eq hSl2 | exact Nat.le_of_eq hSl2.symm | exact congrArg nums hA.symm | exact congrArg nums hB.symm | exact congrArg nums hSl.symm | exact eSk | exact eCm | exact hSkll | exact hSkll.symm | exact hCmll | exact hCmll.symm | exact Nat.le_of_eq hSkll | exact Nat.le_of_eq hCmll | exact congrArg ofN hml | exact htg.symm | exact hml | exact hml.symm | exact Nat.le_of_eq hml | exact Nat.le_of_eq hml.symm | exact hoRl | exact hoRl.symm | exact hoOl | exact hoOl.symm | exact hoRA | exact hoRA.symm | exact hoOM | exact hoOM.symm | exact Nat.le_of_eq hoRl | exact Nat.le_of_eq hoRA | exact Nat.le_of_eq hoOM | exact Nat.le_of_eq hoOl | exact congrArg nums hoR.symm | exact congrArg nums hoO.symm | rfl
            · cbv
              repeat' first | apply And.intro | exact trivial | exact SameS.mk rfl | exact SameI.mk (by with_reducible rfl) | exact SameN.mk (by with_reducible rfl) | exact SameL.mk (by with_reducible rfl) | exact SameB.mk (by with_reducible rfl) | exact LeN.mk (by with_reducible exact Nat.le_refl _) | apply SameI.mk | apply SameN.mk | apply SameL.mk | apply SameB.mk | apply LeN.mk
              all_goals first | rfl | exact (ofN_succ _).symm | (simp only [toNat_ofN, NX.v, IX.v, Nat.le_refl]; done) | ((try simp only [toNat_ofN, NX.v, IX.v, nadd, nsub]); omega) | skip
              all_goals first | exact Nat.le_refl _ | exact hAl | exact hAl.symm | exact hBl | exact hBl.symm | exact hSl2 | exact hSl2.symm | exact Nat.le_of_eq hAl | exact Nat.le_of_eq hAl.symm | exact Nat.le_of_eq hBl | exact Nat.le_of_eq hBl.symm | exact Nat.le_of_eq hSl2 | exact Nat.le_of_eq hSl2.symm | exact congrArg nums hA.symm | exact congrArg nums hB.symm | exact congrArg nums hSl.symm | exact eSk | exact eCm | exact hSkll | exact hSkll.symm | exact hCmll | exact hCmll.symm | exact Nat.le_of_eq hSkll | exact Nat.le_of_eq hCmll | exact congrArg ofN hml | exact htg.symm | exact hml | exact hml.symm | exact Nat.le_of_eq hml | exact Nat.le_of_eq hml.symm | exact hoRl | exact hoRl.symm | exact hoOl | exact hoOl.symm | exact hoRA | exact hoRA.symm | exact hoOM | exact hoOM.symm | exact Nat.le_of_eq hoRl | exact Nat.le_of_eq hoRA | exact Nat.le_of_eq hoOM | exact Nat.le_of_eq hoOl | exact congrArg nums hoR.symm | exact congrArg nums hoO.symm | rfl
            cbv
            refine skipL hOn ?_
            intro _
            cbv
            refine Br.f (fun c => ?_) (fun c => ?_)
            · cases c
            cbv
            refine Br.f (fun c => ?_) (fun c => ?_)
            · cases c
            cbv
            refine loop_inv [1, 9, 11, 21, 238, 239] (fun (i : Nat) => i ≤ T.length) (fun i => ⟨[.undef, .sl 0 (.l 0) (.l 0) 1 (.t fun _ => T.length) (.t fun _ => T.length) false, .undef, .undef, .undef, .undef, .undef, .undef, .undef, .ptr 3 (.l 0) (.l 0), .undef, .bool (.t fun _ => true), .undef, .undef, .undef, .undef, .undef, .undef, .undef, .undef, .undef, .sl 4 (.l 0) (.l 0) 1 (.t fun _ => A.length) (.t fun _ => A.length) false, .undef, .undef, .undef, .undef, .undef, .undef, .undef, .undef, .undef, .undef, .undef, .undef, .undef, .undef, .undef, .undef, .undef, .undef, .undef, .undef, .undef, .undef, .undef, .undef, .undef, .undef, .undef, .undef, .undef, .undef, .undef, .undef, .undef, .undef, .undef, .undef, .undef, .undef, .undef, .undef, .undef, .undef, .undef, .undef, .undef, .undef, .undef, .undef, .undef, .undef, .undef, .undef, .undef, .undef, .undef, .undef, .undef, .undef, .undef, .undef, .undef, .undef, .undef, .undef, .undef, .undef, .undef, .undef, .undef, .undef, .undef, .undef, .undef, .undef, .undef, .undef, .undef, .undef, .undef, .undef, .undef, .undef, .undef, .undef, .undef, .undef, .undef, .undef, .undef, .undef, .undef, .undef, .undef, .undef, .undef, .undef, .undef, .undef, .undef, .undef, .undef, .undef, .undef, .undef, .undef, .undef, .undef, .undef, .undef, .undef, .undef, .undef, .undef, .undef, .undef, .undef, .undef, .undef, .undef, .undef, .undef, .undef, .undef, .undef, .undef, .undef, .undef, .undef, .undef, .undef, .undef, .undef, .undef, .undef, .undef, .undef, .undef, .undef, .undef, .undef, .undef, .undef, .undef, .undef, .undef, .undef, .undef, .undef, .undef, .undef, .undef, .undef, .undef, .undef, .undef, .undef, .undef, .undef, .undef, .undef, .undef, .undef, .undef, .undef, .undef, .undef, .undef, .undef, .undef, .undef, .undef, .undef, .undef, .undef, .undef, .undef, .undef, .undef, .undef, .undef, .undef, .undef, .undef, .undef, .undef, .undef, .undef, .undef, .undef, .undef, .undef, .undef, .undef, .undef, .undef, .undef, .undef, .undef, .undef, .undef, .undef, .undef, .undef, .undef, .undef, .undef, .undef, .undef, .undef, .undef, .undef, .undef, .undef, .undef, .undef, .undef, .int .i64 (.t fun _ => ofN T.length), .int .i64 (.t fun _ => ofN i), .undef, .undef, .undef, .undef, .undef, .undef, .undef, .undef, .undef, .undef, .undef, .undef, .undef, .undef, .undef, .undef, .undef, .undef, .undef, .undef, .undef, .undef, .undef],
              [some ⟨false, .rows [.int .u16] fun _ => nums T⟩, some ⟨false, .rows [.int .u16] fun _ => nums M⟩, some ⟨false, .rows [.sl [.int .u8]] fun _ => rowsC C⟩, some ⟨true, .cells [.int .i64 (.t fun _ => ofN 15), .int .i64 (.t fun _ => perm), .int .u16 (.t fun _ => pad)]⟩, some ⟨true, .rows [.int .u16] fun _ => nums A⟩]⟩) (fun i => T.length - i) 0 (Nat.zero_le _) ?_ ?_
            · cbv
              repeat' first | apply And.intro | exact trivial | exact SameS.mk rfl | exact SameI.mk (by with_reducible rfl) | exact SameN.mk (by with_reducible rfl) | exact SameL.mk (by with_reducible rfl) | exact SameB.mk (by with_reducible rfl) | exact LeN.mk (by with_reducible exact Nat.le_refl _) | apply SameI.mk | apply SameN.mk | apply SameL.mk | apply SameB.mk | apply LeN.mk
              all_goals first | rfl | exact (ofN_succ _).symm | (simp only [toNat_ofN, NX.v, IX.v, Nat.le_refl]; done) | ((try simp only [toNat_ofN, NX.v, IX.v, nadd, nsub]); omega) | skip
              all_goals first | exact Nat.le_refl _ | exact hAl | exact hAl.symm | exact hBl | exact hBl.symm | exact hSl2 | exact hSl2.symm | exact Nat.le_of_eq hAl | exact Nat.le_of_eq hAl.symm | exact Nat.le_of_eq hBl | exact Nat.le_of_eq hBl.symm | exact Nat.le_of_eq hSl2 | exact Nat.le_of_eq hSl2.symm | exact congrArg nums hA.symm | exact congrArg nums hB.symm | exact congrArg nums hSl.symm | exact eSk | exact eCm | exact hSkll | exact hSkll.symm | exact hCmll | exact hCmll.symm | exact Nat.le_of_eq hSkll | exact Nat.le_of_eq hCmll | exact congrArg ofN hml | exact htg.symm | exact hml | exact hml.symm | exact Nat.le_of_eq hml | exact Nat.le_of_eq hml.symm | exact hoRl | exact hoRl.symm | exact hoOl | exact hoOl.symm | exact hoRA | exact hoRA.symm | exact hoOM | exact hoOM.symm | exact Nat.le_of_eq hoRl | exact Nat.le_of_eq hoRA | exact Nat.le_of_eq hoOM | exact Nat.le_of_eq hoOl | exact congrArg nums hoR.symm | exact congrArg nums hoO.symm | rfl
            · intro i R hi hR
              have i0 := ofN_nonneg i
              cbv
              refine Br.mk (fun hc => ?_) (fun hc => ?_)
              · cbv
                have hi2 := lt_len hc
                have hi3 : i < A.length := by omega
                have eA := at1_nums A i
                have eT := at1_nums T i
                have hAi := bA i hi3
                have hsh := hshow i hi2
                refine Chk.mk (idx1 hi3) ?_
                cbv
                refine Chk.mk (idxN hi3) ?_
                cbv
                refine ⟨(⟨15, perm, pad⟩, ofN (A.getD i 0)), ⟨hkey, ofN_nonneg _, ofN_lt.2 hAi⟩, Ent.of_wvs ?_, trivial, ?_⟩
                · cbv
                  repeat' first | apply And.intro | exact trivial | exact SameS.mk rfl | exact SameI.mk (by with_reducible rfl) | exact SameN.mk (by with_reducible rfl) | exact SameL.mk (by with_reducible rfl) | exact SameB.mk (by with_reducible rfl) | exact LeN.mk (by with_reducible exact Nat.le_refl _) | apply SameI.mk | apply SameN.mk | apply SameL.mk | apply SameB.mk | apply LeN.mk
                  all_goals first | rfl | exact (ofN_succ _).symm | (simp only [toNat_ofN, NX.v, IX.v, Nat.le_refl]; done) | ((try simp only [toNat_ofN, NX.v, IX.v, nadd, nsub]); omega) | skip
                  all_goals exact eA
                cbv
                refine Chk.mk (idx1 hi2) ?_
                cbv
                refine Chk.mk (idxN hi2) ?_
                cbv
                refine Br.f (fun c => ?_) (fun c => ?_)
                · have c : showI ⟨15, perm, pad⟩ (ofN (A.getD i 0)) ≠ at1 (nums T) (ofN i).toNat := ne_t.1 c
                  rw [eT, hsh] at c
                  exact c rfl
                cbv
                refine Chk.mk (inc64 hi2 (by omega)) ?_
                cbv
                refine .mk (hR (i + 1) _ hi2 (by omega) ?_)
                cbv
                repeat' first | apply And.intro | exact trivial | exact SameS.mk rfl | exact SameI.mk (by with_reducible rfl) | exact SameN.mk (by with_reducible rfl) | exact SameL.mk (by with_reducible rfl) | exact SameB.mk (by with_reducible rfl) | exact LeN.mk (by with_reducible exact Nat.le_refl _) | apply SameI.mk | apply SameN.mk | apply SameL.mk | apply SameB.mk | apply LeN.mk
                all_goals first | rfl | exact (ofN_succ _).symm | (simp only [toNat_ofN, NX.v, IX.v, Nat.le_refl]; done) | ((try simp only [toNat_ofN, NX.v, IX.v, nadd, nsub]); omega) | skip
                all_goals exact aop_add.trans (ofN_succ _).symm
              · cbv
                refine .mk ?_
                cbv
                refine .mk _ _ h2 ?_ ?_
                all_goals cbv
                all_goals repeat' first | apply And.intro | exact trivial | exact SameS.mk rfl | exact SameI.mk (by with_reducible rfl) | exact SameN.mk (by with_reducible rfl) | exact SameL.mk (by with_reducible rfl) | exact SameB.mk (by with_reducible rfl) | exact LeN.mk (by with_reducible exact Nat.le_refl _) | apply SameI.mk | apply SameN.mk | apply SameL.mk | apply SameB.mk | apply LeN.mk
                all_goals first | rfl | exact (ofN_succ _).symm | (simp only [toNat_ofN, NX.v, IX.v, Nat.le_refl]; done) | ((try simp only [toNat_ofN, NX.v, IX.v, nadd, nsub]); omega) | skip
      · have hall := hnear.1 hNB
        have hr := (fR1 hall).1
        have hRn : ¬ (∃ i, i < B.length ∧ RecX.near ⟨n, Skl, B⟩ i = false) := fun ⟨i, hi, h⟩ => by have := hr i hi; rw [h] at this; cases this
        have hOn : ¬ ¬ OpX.opens ⟨n, Cm, tg, B⟩ := not_not_intro (fO1 hall).1
        have hRsame : ∀ i, i < outR.length → outR.getD i 0 = A.getD i 0 := fun i _ => by rw [(fR1 hall).2]
        have hOsame : ∀ i, i < outO.length → outO.getD i 0 = M.getD i 0 := fun i _ => by rw [(fO1 hall).2]
        refine ⟨⟨n, Skl, B⟩, ⟨hk, hB1, hB4, hSB, bB, bSk⟩, Ent.of_wvs ?_, ?_, ?_⟩
        · cbv
          repeat' first | apply And.intro | exact trivial | exact SameS.mk rfl | exact SameI.mk (by with_reducible rfl) | exact SameN.mk (by with_reducible rfl) | exact SameL.mk (by with_reducible rfl) | exact SameB.mk (by with_reducible rfl) | exact LeN.mk (by with_reducible exact Nat.le_refl _) | apply SameI.mk | apply SameN.mk | apply SameL.mk | apply SameB.mk | apply LeN.mk
          all_goals first | rfl | exact (ofN_succ _).symm | (simp only [toNat_ofN, NX.v, IX.v, Nat.le_refl]; done) | ((try simp only [toNat_ofN, NX.v, IX.v, nadd, nsub]); omega) | skip
          all_goals first | exact Nat.le_refl _ | exact hAl | exact hAl.symm | exact hBl | exact hBl.symm | exact hSl2 | exact hSl2.symm | exact Nat.le_of_eq hAl | exact Nat.le_of_eq hAl.symm | exact Nat.le_of_eq hBl | exact Nat.le_of_eq hBl.symm | exact Nat.le_of_eq hSl2 | exact Nat.le_of_eq hSl2.symm | exact congrArg nums hA.symm | exact congrArg nums hB.symm | exact congrArg nums hSl.symm | exact eSk | exact eCm | exact hSkll | exact hSkll.symm | exact hCmll | exact hCmll.symm | exact Nat.le_of_eq hSkll | exact Nat.le_of_eq hCmll | exact congrArg ofN hml | exact htg.symm | exact hml | exact hml.symm | exact Nat.le_of_eq hml | exact Nat.le_of_eq hml.symm | exact hoRl | exact hoRl.symm | exact hoOl | exact hoOl.symm | exact hoRA | exact hoRA.symm | exact hoOM | exact hoOM.symm | exact Nat.le_of_eq hoRl | exact Nat.le_of_eq hoRA | exact Nat.le_of_eq hoOM | exact Nat.le_of_eq hoOl | exact congrArg nums hoR.symm | exact congrArg nums hoO.symm | rfl
        · cbv
          repeat' first | apply And.intro | exact trivial | exact SameS.mk rfl | exact SameI.mk (by with_reducible rfl) | exact SameN.mk (by with_reducible rfl) | exact SameL.mk (by with_reducible rfl) | exact SameB.mk (by with_reducible rfl) | exact LeN.mk (by with_reducible exact Nat.le_refl _) | apply SameI.mk | apply SameN.mk | apply SameL.mk | apply SameB.mk | apply LeN.mk
          all_goals first | rfl | exact (ofN_succ _).symm | (simp only [toNat_ofN, NX.v, IX.v, Nat.le_refl]; done) | ((try simp only [toNat_ofN, NX.v, IX.v, nadd, nsub]); omega) | skip
          all_goals first | exact Nat.le_refl _ | exact hAl | exact hAl.symm | exact hBl | exact hBl.symm | exact hSl2 | exact hSl2.symm | exact Nat.le_of_eq hAl | exact Nat.le_of_eq hAl.symm | exact Nat.le_of_eq hBl | exact Nat.le_of_eq hBl.symm | exact Nat.le_of_eq hSl2 | exact Nat.le_of_eq hSl2.symm | exact congrArg nums hA.symm | exact congrArg nums hB.symm | exact congrArg nums hSl.symm | exact eSk | exact eCm | exact hSkll | exact hSkll.symm | exact hCmll | exact hCmll.symm | exact Nat.le_of_eq hSkll | exact Nat.le_of_eq hCmll | exact congrArg ofN hml | exact htg.symm | exact hml | exact hml.symm | exact Nat.le_of_eq hml | exact Nat.le_of_eq hml.symm | exact hoRl | exact hoRl.symm | exact hoOl | exact hoOl.symm | exact hoRA | exact hoRA.symm | exact hoOM | exact hoOM.symm | exact Nat.le_of_eq hoRl | exact Nat.le_of_eq hoRA | exact Nat.le_of_eq hoOM | exact Nat.le_of_eq hoOl | exact congrArg nums hoR.symm | exact congrArg nums hoO.symm | rfl
        cbv
        refine skipR hRn ?_
        intro _
        cbv
        refine ⟨⟨n, Cm, tg, B⟩, ⟨hk, hB1, hB4, hCB, bB, bCm⟩, Ent.of_wvs ?_, ?_, ?_⟩
        · cbv
          repeat' first | apply And.intro | exact trivial | exact SameS.mk rfl | exact SameI.mk (by with_reducible rfl) | exact SameN.mk (by with_reducible rfl) | exact SameL.mk (by with_reducible rfl) | exact SameB.mk (by with_reducible rfl) | exact LeN.mk (by with_reducible exact Nat.le_refl _) | apply SameI.mk | apply SameN.mk | apply SameL.mk | apply SameB.mk | apply LeN.mk
          all_goals first | rfl | exact (ofN_succ _).symm | (simp only [toNat_ofN, NX.v, IX.v, Nat.le_refl]; done) | ((try simp only [toNat_ofN, NX.v, IX.v, nadd, nsub]); omega) | skip
          all_goals first | exact Nat.le_refl _ | exact hAl | exact hAl.symm | exact hBl | exact hBl.symm | exact hSl2 | exact hSl2.symm | exact Nat.le_of_eq hAl | exact Nat.le_of_eq hAl.symm | exact Nat.le_of_eq hBl | exact Nat.le_of_eq hBl.symm | exact Nat.le_of_eq hSl2 | exact Nat.le_of_eq hSl2.symm | exact congrArg nums hA.symm | exact congrArg nums hB.symm | exact congrArg nums hSl.symm | exact eSk | exact eCm | exact hSkll | exact hSkll.symm | exact hCmll | exact hCmll.symm | exact Nat.le_of_eq hSkll | exact Nat.le_of_eq hCmll | exact congrArg ofN hml | exact htg.symm | exact hml | exact hml.symm | exact Nat.le_of_eq hml | exact Nat.le_of_eq hml.symm | exact hoRl | exact hoRl.symm | exact hoOl | exact hoOl.symm | exact hoRA | exact hoRA.symm | exact hoOM | exact hoOM.symm | exact Nat.le_of_eq hoRl | exact Nat.le_of_eq hoRA | exact Nat.le_of_eq hoOM | exact Nat.le_of_eq hoOl | exact congrArg nums hoR.symm | exact congrArg nums hoO.symm | rfl
        · cbv
          repeat' first | apply And.intro | exact trivial | exact SameS.mk rfl | exact SameI.mk (by with_reducible rfl) | exact SameN.mk (by with_reducible rfl) | exact SameL.mk (by with_reducible rfl) | exact SameB.mk (by with_reducible rfl) | exact LeN.mk (by with_reducible exact Nat.le_refl _) | apply SameI.mk | apply SameN.mk | apply SameL.mk | apply SameB.mk | apply LeN.mk
          all_goals first | rfl | exact (ofN_succ _).symm | (simp only [toNat_ofN, NX.v, IX.v, Nat.le_refl]; done) | ((try simp only [toNat_ofN, NX.v, IX.v, nadd, nsub]); omega) | skip
          all_goals first | exact Nat.le_refl _ | exact hAl | exact hAl.symm | exact hBl | exact hBl.symm | exact hSl2 | exact hSl2.symm | exact Nat.le_of_eq hAl | exact Nat.le_of_eq hAl.symm | exact Nat.le_of_eq hBl | exact Nat.le_of_eq hBl.symm | exact Nat.le_of_eq hSl2 | exact Nat.le_of_eq hSl2.symm | exact congrArg nums hA.symm | exact congrArg nums hB.symm | exact congrArg nums hSl.symm | exact eSk | exact eCm | exact hSkll | exact hSkll.symm | exact hCmll | exact hCmll.symm | exact Nat.le_of_eq hSkll | exact Nat.le_of_eq hCmll | exact congrArg ofN hml | exact htg.symm | exact hml | exact hml.symm | exact Nat.le_of_eq hml | exact Nat.le_of_eq hml.symm | exact hoRl | exact hoRl.symm | exact hoOl | exact hoOl.symm | exact hoRA | exact hoRA.symm | exact hoOM | exact hoOM.symm | exact Nat.le_of_eq hoRl | exact Nat.le_of_eq hoRA | exact Nat.le_of_eq hoOM | exact Nat.le_of_eq hoOl | exact congrArg nums hoR.symm | exact congrArg nums hoO.symm | rfl
        cbv
        refine skipR hOn ?_
        intro _
        cbv
        refine ⟨⟨outR, A, true⟩, ⟨hoRA, hoR1000⟩, Ent.of_wvs ?_, ?_, ?_⟩
        · cbv
          repeat' first | apply And.intro | exact trivial | exact SameS.mk rfl | exact SameI.mk (by with_reducible rfl) | exact SameN.mk (by with_reducible rfl) | exact SameL.mk (by with_reducible rfl) | exact SameB.mk (by with_reducible rfl) | exact LeN.mk (by with_reducible exact Nat.le_refl _) | apply SameI.mk | apply SameN.mk | apply SameL.mk | apply SameB.mk | apply LeN.mk
          all_goals first | rfl | exact (ofN_succ _).symm | (simp only [toNat_ofN, NX.v, IX.v, Nat.le_refl]; done) | ((try simp only [toNat_ofN, NX.v, IX.v, nadd, nsub]); omega) | skip
          all_goals first | exact Nat.le_refl _ | exact hAl | exact hAl.symm | exact hBl | exact hBl.symm | exact hSl2 | exact hSl2.symm | exact Nat.le_of_eq hAl | exact Nat.le_of_eq hAl.symm | exact Nat.le_of_eq hBl | exact Nat.le_of_eq hBl.symm | exact Nat.le_of_eq hSl2 | exact Nat.le_of_eq hSl2.symm | exact congrArg nums hA.symm | exact congrArg nums hB.symm | exact congrArg nums hSl.symm | exact eSk | exact eCm | exact hSkll | exact hSkll.symm | exact hCmll | exact hCmll.symm | exact Nat.le_of_eq hSkll | exact Nat.le_of_eq hCmll | exact congrArg ofN hml | exact htg.symm | exact hml | exact hml.symm | exact Nat.le_of_eq hml | exact Nat.le_of_eq hml.symm | exact hoRl | exact hoRl.symm | exact hoOl | exact hoOl.symm | exact hoRA | exact hoRA.symm | exact hoOM | exact hoOM.symm | exact Nat.le_of_eq hoRl | exact Nat.le_of_eq hoRA | exact Nat.le_of_eq hoOM | exact Nat.le_of_eq hoOl | exact congrArg nums hoR.symm | exact congrArg nums hoO.symm | rfl
        · cbv
          repeat' first | apply And.intro | exact trivial | exact SameS.mk rfl | exact SameI.mk (by with_reducible rfl) | exact SameN.mk (by with_reducible rfl) | exact SameL.mk (by with_reducible rfl) | exact SameB.mk (by with_reducible rfl) | exact LeN.mk (by with_reducible exact Nat.le_refl _) | apply SameI.mk | apply SameN.mk | apply SameL.mk | apply SameB.mk | apply LeN.mk
          all_goals first | rfl | exact (ofN_succ _).symm | (simp only [toNat_ofN, NX.v, IX.v, Nat.le_refl]; done) | ((try simp only [toNat_ofN, NX.v, IX.v, nadd, nsub]); omega) | skip
          all_goals first | exact Nat.le_refl _ | exact hAl | exact hAl.symm | exact hBl | exact hBl.symm | exact hSl2 | exact hSl2.symm | exact Nat.le_of_eq hAl | exact Nat.le_of_eq hAl.symm | exact Nat.le_of_eq hBl | exact Nat.le_of_eq hBl.symm | exact Nat.le_of_eq hSl2 | exact Nat.le_of_eq hSl2.symm | exact congrArg nums hA.symm | exact congrArg nums hB.symm | exact congrArg nums hSl.symm | exact eSk | exact eCm | exact hSkll | exact hSkll.symm | exact hCmll | exact hCmll.symm | exact Nat.le_of_eq hSkll | exact Nat.le_of_eq hCmll | exact congrArg ofN hml | exact htg.symm | exact hml | exact hml.symm | exact Nat.le_of_eq hml | exact Nat.le_of_eq hml.symm | exact hoRl | exact hoRl.symm | exact hoOl | exact hoOl.symm | exact hoRA | exact hoRA.symm | exact hoOM | exact hoOM.symm | exact Nat.le_of_eq hoRl | exact Nat.le_of_eq hoRA | exact Nat.le_of_eq hoOM | exact Nat.le_of_eq hoOl | exact congrArg nums hoR.symm | exact congrArg nums hoO.symm | rfl
        intro q hq
        have hqv : q = true := hq.2 hRsame
        subst hqv
        cbv
        refine ⟨⟨outO, M, false⟩, ⟨hoOM, hoO1000⟩, Ent.of_wvs ?_, ?_, ?_⟩
        · cbv
          repeat' first | apply And.intro | exact trivial | exact SameS.mk rfl | exact SameI.mk (by with_reducible rfl) | exact SameN.mk (by with_reducible rfl) | exact SameL.mk (by with_reducible rfl) | exact SameB.mk (by with_reducible rfl) | exact LeN.mk (by with_reducible exact Nat.le_refl _) | apply SameI.mk | apply SameN.mk | apply SameL.mk | apply SameB.mk | apply LeN.mk
          all_goals first | rfl | exact (ofN_succ _).symm | (simp only [toNat_ofN, NX.v, IX.v, Nat.le_refl]; done) | ((try simp only [toNat_ofN, NX.v, IX.v, nadd, nsub]); omega) | skip
          all_goals first | exact Nat.le_refl _ | exact hAl | exact hAl.symm | exact hBl | exact hBl.symm | exact hSl2 | exact hSl2.symm | exact Nat.le_of_eq hAl | exact Nat.le_of_eq hAl.symm | exact Nat.le_of_eq hBl | exact Nat.le_of_eq hBl.symm | exact Nat.le_of_eq hSl2 | exact Nat.le_of_eq hSl2.symm | exact congrArg nums hA.symm | exact congrArg nums hB.symm | exact congrArg nums hSl.symm | exact eSk | exact eCm | exact hSkll | exact hSkll.symm | exact hCmll | exact hCmll.symm | exact Nat.le_of_eq hSkll | exact Nat.le_of_eq hCmll | exact congrArg ofN hml | exact htg.symm | exact hml | exact hml.symm | exact Nat.le_of_eq hml | exact Nat.le_of_eq hml.symm | exact hoRl | exact hoRl.symm | exact hoOl | exact hoOl.symm | exact hoRA | exact hoRA.symm | exact hoOM | exact hoOM.symm | exact Nat.le_of_eq hoRl | exact Nat.le_of_eq hoRA | exact Nat.le_of_eq hoOM | exact Nat.le_of_eq hoOl | exact congrArg nums hoR.symm | exact congrArg nums hoO.symm | rfl
        · cbv
          repeat' first | apply And.intro | exact trivial | exact SameS.mk rfl | exact SameI.mk (by with_reducible rfl) | exact SameN.mk (by with_reducible rfl) | exact SameL.mk (by with_reducible rfl) | exact SameB.mk (by with_reducible rfl) | exact LeN.mk (by with_reducible exact Nat.le_refl _) | apply SameI.mk | apply SameN.mk | apply SameL.mk | apply SameB.mk | apply LeN.mk
          all_goals first | rfl | exact (ofN_succ _).symm | (simp only [toNat_ofN, NX.v, IX.v, Nat.le_refl]; done) | ((try simp only [toNat_ofN, NX.v, IX.v, nadd, nsub]); omega) | skip
          all_goals first | exact Nat.le_refl _ | exact hAl | exact hAl.symm | exact hBl | exact hBl.symm | exact hSl2 | exact hSl2.symm | exact Nat.le_of_eq hAl | exact Nat.le_of_eq hAl.symm | exact Nat.le_of_eq hBl | exact Nat.le_of_eq hBl.symm | exact Nat.le_of_eq hSl2 | exact Nat.le_of_eq hSl2.symm | exact congrArg nums hA.symm | exact congrArg nums hB.symm | exact congrArg nums hSl.symm | exact eSk | exact eCm | exact hSkll | exact hSkll.symm | exact hCmll | exact hCmll.symm | exact Nat.le_of_eq hSkll | exact Nat.le_of_eq hCmll | exact congrArg ofN hml | exact htg.symm | exact hml | exact hml.symm | exact Nat.le_of_eq hml | exact Nat.le_of_eq hml.symm | exact hoRl | exact hoRl.symm | exact hoOl | exact hoOl.symm | exact hoRA | exact hoRA.symm | exact hoOM | exact hoOM.symm | exact Nat.le_of_eq hoRl | exact Nat.le_of_eq hoRA | exact Nat.le_of_eq hoOM | exact Nat.le_of_eq hoOl | exact congrArg nums hoR.symm | exact congrArg nums hoO.symm | rfl
        intro q hq
        have hqv : q = true := hq.2 hOsame
        subst hqv
        cbv
        refine Br.f (fun c => ?_) (fun c => ?_)
        · cases c
        cbv
        refine Br.f (fun c => ?_) (fun c => ?_)
        · cases c
        cbv
        refine Br.t (fun c => ?_) (fun c => ?_)
        rotate_left
        · cases c
        cbv
        refine Br.f (fun c => ?_) (fun c => ?_)
        · exact ne_t.1 c (congrArg ofN (fRs hall))
        cbv
        refine loop_inv [1, 9, 11, 21, 238, 239] (fun (i : Nat) => i ≤ T.length) (fun i => ⟨[.undef, .sl 0 (.l 0) (.l 0) 1 (.t fun _ => T.length) (.t fun _ => T.length) false, .undef, .undef, .undef, .undef, .undef, .undef, .undef, .ptr 3 (.l 0) (.l 0), .undef, .bool (.t fun _ => true), .undef, .undef, .undef, .undef, .undef, .undef, .undef, .undef, .undef, .sl 4 (.l 0) (.l 0) 1 (.t fun _ => A.length) (.t fun _ => A.length) false, .undef, .undef, .undef, .undef, .undef, .undef, .undef, .undef, .undef, .undef, .undef, .undef, .undef, .undef, .undef, .undef, .undef, .undef, .undef, .undef, .undef, .undef, .undef, .undef, .undef, .undef, .undef, .undef, .undef, .undef, .undef, .undef, .undef, .undef, .undef, .undef, .undef, .undef, .undef, .undef, .undef, .undef, .undef, .undef, .undef, .undef, .undef, .undef, .undef, .undef, .undef, .undef, .undef, .undef, .undef, .undef, .undef, .undef, .undef, .undef, .undef, .undef, .undef, .undef, .undef, .undef, .undef, .undef, .undef, .undef, .undef, .undef, .undef, .undef, .undef, .undef, .undef, .undef, .undef, .undef, .undef, .undef, .undef, .undef, .undef, .undef, .undef, .undef, .undef, .undef, .undef, .undef, .undef, .undef, .undef, .undef, .undef, .undef, .undef, .undef, .undef, .undef, .undef, .undef, .undef, .undef, .undef, .undef, .undef, .undef, .undef, .undef, .undef, .undef, .undef, .undef, .undef, .undef, .undef, .undef, .undef, .undef, .undef, .undef, .undef, .undef, .undef, .undef, .undef, .undef, .undef, .undef, .undef, .undef, .undef, .undef, .undef, .undef, .undef, .undef, .undef, .undef, .undef, .undef, .undef, .undef, .undef, .undef, .undef, .undef, .undef, .undef, .undef, .undef, .undef, .undef, .undef, .undef, .undef, .undef, .undef, .undef, .undef, .undef, .undef, .undef, .undef, .undef, .undef, .undef, .undef, .undef, .undef, .undef, .undef, .undef, .undef, .undef, .undef, .undef, .undef, .undef, .undef, .undef, .undef, .undef, .undef, .undef, .undef, .undef, .undef, .undef, .undef, .undef, .undef, .undef, .undef, .undef, .undef, .undef, .undef, .undef, .undef, .undef, .undef, .undef, .undef, .undef, .undef, .undef, .undef, .undef, .undef, .undef, .undef, .undef, .int .i64 (.t fun _ => ofN T.length), .int .i64 (.t fun _ => ofN i), .undef, .undef, .undef, .undef, .undef, .undef, .undef, .undef, .undef, .undef, .undef, .undef, .undef, .undef, .undef, .undef, .undef, .undef, .undef, .undef, .undef, .undef, .undef],
          [some ⟨false, .rows [.int .u16] fun _ => nums T⟩, some ⟨false, .rows [.int .u16] fun _ => nums M⟩, some ⟨false, .rows [.sl [.int .u8]] fun _ => rowsC C⟩, some ⟨true, .cells [.int .i64 (.t fun _ => ofN 15), .int .i64 (.t fun _ => perm), .int .u16 (.t fun _ => pad)]⟩, some ⟨true, .rows [.int .u16] fun _ => nums A⟩]⟩) (fun i => T.length - i) 0 (Nat.zero_le _) ?_ ?_
        · cbv
          repeat' first | apply And.intro | exact trivial | exact SameS.mk rfl | exact SameI.mk (by with_reducible rfl) | exact SameN.mk (by with_reducible rfl) | exact SameL.mk (by with_reducible rfl) | exact SameB.mk (by with_reducible rfl) | exact LeN.mk (by with_reducible exact Nat.le_refl _) | apply SameI.mk | apply SameN.mk | apply SameL.mk | apply SameB.mk | apply LeN.mk
          all_goals first | rfl | exact (ofN_succ _).symm | (simp only [toNat_ofN, NX.v, IX.v, Nat.le_refl]; done) | ((try simp only [toNat_ofN, NX.v, IX.v, nadd, nsub]); omega) | skip
          all_goals first | exact Nat.le_refl _ | exact hAl | exact hAl.symm | exact hBl | exact hBl.symm | exact hSl2 | exact hSl2.symm | exact Nat.le_of_eq hAl | exact Nat.le_of_eq hAl.symm | exact Nat.le_of_eq hBl | exact Nat.le_of_eq hBl.symm | exact Nat.le_of_eq hSl2 | exact Nat.le_of_eq hSl2.symm | exact congrArg nums hA.symm | exact congrArg nums hB.symm | exact congrArg nums hSl.symm | exact eSk | exact eCm | exact hSkll | exact hSkll.symm | exact hCmll | exact hCmll.symm | exact Nat.le_of_eq hSkll | exact Nat.le_of_eq hCmll | exact congrArg ofN hml | exact htg.symm | exact hml | exact hml.symm | exact Nat.le_of_eq hml | exact Nat.le_of_eq hml.symm | exact hoRl | exact hoRl.symm | exact hoOl | exact hoOl.symm | exact hoRA | exact hoRA.symm | exact hoOM | exact hoOM.symm | exact Nat.le_of_eq hoRl | exact Nat.le_of_eq hoRA | exact Nat.le_of_eq hoOM | exact Nat.le_of_eq hoOl | exact congrArg nums hoR.symm | exact congrArg nums hoO.symm | rfl
        · intro i R hi hR
          have i0 := ofN_nonneg i
          cbv
          refine Br.mk (fun hc => ?_) (fun hc => ?_)
          · cbv
            have hi2 := lt_len hc
            have hi3 : i < A.length := by omega
            have eA := at1_nums A i
            have eT := at1_nums T i
            have hAi := bA i hi3
            have hsh := hshow i hi2
            refine Chk.mk (idx1 hi3) ?_
            cbv
            refine Chk.mk (idxN hi3) ?_
            cbv
            refine ⟨(⟨15, perm, pad⟩, ofN (A.getD i 0)), ⟨hkey, ofN_nonneg _, ofN_lt.2 hAi⟩, Ent.of_wvs ?_, trivial, ?_⟩
            · cbv
              repeat' first | apply And.intro | exact trivial | exact SameS.mk rfl | exact SameI.mk (by with_reducible rfl) | exact SameN.mk (by with_reducible rfl) | exact SameL.mk (by with_reducible rfl) | exact SameB.mk (by with_reducible rfl) | exact LeN.mk (by with_reducible exact Nat.le_refl _) | apply SameI.mk | apply SameN.mk | apply SameL.mk | apply SameB.mk | apply LeN.mk
              all_goals first | rfl | exact (ofN_succ _).symm | (simp only [toNat_ofN, NX.v, IX.v, Nat.le_refl]; done) | ((try simp only [toNat_ofN, NX.v, IX.v, nadd, nsub]); omega) | skip
              all_goals exact eA
            cbv
            refine Chk.mk (idx1 hi2) ?_
            cbv
            refine Chk.mk (idxN hi2) ?_
            cbv
            refine Br.f (fun c => ?_) (fun c => ?_)
            · have c : showI ⟨15, perm, pad⟩ (ofN (A.getD i 0)) ≠ at1 (nums T) (ofN i).toNat := ne_t.1 c
              rw [eT, hsh] at c
              exact c rfl
            cbv
            refine Chk.mk (inc64 hi2 (by omega)) ?_
            cbv
            refine .mk (hR (i + 1) _ hi2 (by omega) ?_)
            cbv
            repeat' first | apply And.intro | exact trivial | exact SameS.mk rfl | exact SameI.mk (by with_reducible rfl) | exact SameN.mk (by with_reducible rfl) | exact SameL.mk (by with_reducible rfl) | exact SameB.mk (by with_reducible rfl) | exact LeN.mk (by with_reducible exact Nat.le_refl _) | apply SameI.mk | apply SameN.mk | apply SameL.mk | apply SameB.mk | apply LeN.mk
            all_goals first | rfl | exact (ofN_succ _).symm | (simp only [toNat_ofN, NX.v, IX.v, Nat.le_refl]; done) | ((try simp only [toNat_ofN, NX.v, IX.v, nadd, nsub]); omega) | skip
            all_goals exact aop_add.trans (ofN_succ _).symm
          · cbv
            refine .mk ?_
            cbv
            refine .mk _ _ h2 ?_ ?_
            all_goals cbv
            all_goals repeat' first | apply And.intro | exact trivial | exact SameS.mk rfl | exact SameI.mk (by with_reducible rfl) | exact SameN.mk (by with_reducible rfl) | exact SameL.mk (by with_reducible rfl) | exact SameB.mk (by with_reducible rfl) | exact LeN.mk (by with_reducible exact Nat.le_refl _) | apply SameI.mk | apply SameN.mk | apply SameL.mk | apply SameB.mk | apply LeN.mk
            all_goals first | rfl | exact (ofN_succ _).symm | (simp only [toNat_ofN, NX.v, IX.v, Nat.le_refl]; done) | ((try simp only [toNat_ofN, NX.v, IX.v, nadd, nsub]); omega) | skip
end Go.Proofs.YtlgmbpnlakjefaaDoor
end
