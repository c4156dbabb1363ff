/- Put together by a program of this work out of its texts KpD. -/
import Derived.Test.YtlgmbpnlakjefaaDoorM16
section
/- Contracts: are all entries below a bound? templates, tags. -/
namespace Go.Proofs.YtlgmbpnlakjefaaDoor
open Go.Sy
set_option maxRecDepth 100000
set_option maxHeartbeats 1000000
set_option linter.unusedSimpArgs false
set_option linter.unusedVariables false
/-- rows of whole numbers from 0 on -/
def nums (l : List Nat) : List (List D) := ints (l.map ofN)
theorem nums_length (l : List Nat) : (nums l).length = l.length := by simp [nums, ints_length]
theorem at1_nums (l : List Nat) (i : Nat) : at1 (nums l) (ofN i).toNat = ofN (l.getD i 0) := by
  unfold nums
  rw [toNat_ofN, at1_ints]
  simp only [List.getD_eq_getElem?_getD, List.getElem?_map]
  cases l[i]? <;> rfl
theorem idxN {l : List Nat} {i : Nat} (h : i < l.length) : 0 ≤ ofN (ofN i).toNat ∧ ofN (ofN i).toNat < ((NX.t fun _ => (nums l).length).v : Int) := by rw [toNat_ofN, nums_length]; exact idx1 h
def Below (l : List Nat) (b : Nat) : Prop := ∀ i, i < l.length → l.getD i 0 < b
def cBnd (b : Nat → Nat) : Con := con (fun x : Nat × Nat => [.int .u16 (.t fun _ => ofN x.2), .ptr 0 (.l 0) (.l 0)]) (fun x => [some ⟨true, .cells (codeC x.1)⟩]) (fun x => Kind3 x.1 ∧ x.2 < b x.1) (fun x K => K (.bool (.l false)) [some ⟨true, .cells (codeC x.1)⟩])
theorem two_kd {kd : Nat} (hk : Kind3 kd) : 2 ^ kdN kd < 32768 ∧ 2 ^ fN kd < 32768 ∧ kdN kd < 15 ∧ fN kd < 15 := by rcases hk with rfl | rfl | rfl <;> decide
theorem s43 : Sound Tryd.prog 43 (cBnd fun kd => 2 ^ kdN kd) := by
  refine k43.con tabOk envOk_nil mixed o43 fun x K hx h2 => ?_
  have hk : Kind3 x.1 := hx.1
  have hw : x.2 < 2 ^ kdN x.1 := hx.2
  have e1 := shl16_one (two_kd hk).2.2.1
  cbv
  refine Chk.mk ((ofN_nonneg _)) ?_
  cbv
  refine .mk _ _ h2 ?_ ?_
  all_goals cbv
  all_goals repeat' first | apply And.intro | exact trivial | exact SameI.mk (by with_reducible rfl) | exact SameN.mk (by with_reducible rfl) | exact SameL.mk (by with_reducible rfl) | exact SameB.mk (by with_reducible rfl) | exact LeN.mk (by with_reducible exact Nat.le_refl _) | apply SameI.mk | apply SameN.mk | apply SameL.mk | apply SameB.mk | apply LeN.mk
  all_goals first | rfl | exact (ofN_succ _).symm | (simp only [toNat_ofN, NX.v, IX.v, Nat.le_refl]; done) | ((try simp only [toNat_ofN, NX.v, IX.v, nadd, nsub]); omega) | skip
  show cop .ge (ofN x.2) (aop (.shl .u16) 1 (ofN (kdN x.1))) = false
  rw [e1]; exact ge_f.2 (by simp only [ofN]; omega)
theorem s44 : Sound Tryd.prog 44 (cBnd fun kd => 2 ^ fN kd) := by
  refine k44.con tabOk envOk_nil mixed o44 fun x K hx h2 => ?_
  have hk : Kind3 x.1 := hx.1
  have hw : x.2 < 2 ^ fN x.1 := hx.2
  have e1 := shl16_one (two_kd hk).2.2.2
  have g3 : fN x.1 + kdN x.1 = 15 := (gN_bits hk).2.2
  have ef : aop .sub 15 (ofN (kdN x.1)) = ofN (fN x.1) := by rw [aop_sub]; simp only [ofN]; omega
  cbv
  refine Chk.mk (inR64 (by rw [ef]; simp only [ofN]; omega)) ?_
  cbv
  refine Chk.mk ((by rw [ef]; exact ofN_nonneg _)) ?_
  cbv
  refine .mk _ _ h2 ?_ ?_
  all_goals cbv
  all_goals repeat' first | apply And.intro | exact trivial | exact SameI.mk (by with_reducible rfl) | exact SameN.mk (by with_reducible rfl) | exact SameL.mk (by with_reducible rfl) | exact SameB.mk (by with_reducible rfl) | exact LeN.mk (by with_reducible exact Nat.le_refl _) | apply SameI.mk | apply SameN.mk | apply SameL.mk | apply SameB.mk | apply LeN.mk
  all_goals first | rfl | exact (ofN_succ _).symm | (simp only [toNat_ofN, NX.v, IX.v, Nat.le_refl]; done) | ((try simp only [toNat_ofN, NX.v, IX.v, nadd, nsub]); omega) | skip
  show cop .ge (ofN x.2) (aop (.shl .u16) 1 (aop .sub 15 (ofN (kdN x.1)))) = false
  rw [ef, e1]; exact ge_f.2 (by simp only [ofN]; omega)
structure AllX where
  l : List Nat
  mt : Bool
  kd : Nat
def AllX.heap (x : AllX) : Heap := [some ⟨x.mt, .rows [.int .u16] fun _ => nums x.l⟩, some ⟨true, .cells (codeC x.kd)⟩]
def cIdx (g : Nat) (b : Nat → Nat) : Con := con (fun x : AllX => [.sl 0 (.l 0) (.l 0) 1 (.t fun _ => x.l.length) (.t fun _ => x.l.length) false, .func (.func g) [] [.ptr 1 (.l 0) (.l 0)]]) AllX.heap (fun x => Kind3 x.kd ∧ x.l.length ≤ 1000 ∧ Below x.l (b x.kd)) (fun x K => K (.int .i64 (.l (-1))) x.heap)
theorem f5 : EnvOk Tryd.prog (env [(43, cBnd fun kd => 2 ^ kdN kd)]) := envOk_cons envOk_nil s43 k43.callable
theorem f6 : EnvOk Tryd.prog (env [(44, cBnd fun kd => 2 ^ fN kd)]) := envOk_cons envOk_nil s44 k44.callable
theorem idxM : Sound Tryd.prog 57 (cIdx 43 fun kd => 2 ^ kdN kd) := by
  refine k57.con tabOk f5 mixed o57 fun x K hx h2 => ?_
  obtain ⟨l, mt, kd⟩ := x
  have hk : Kind3 kd := hx.1
  have hl : l.length ≤ 1000 := hx.2.1
  have hb : Below l (2 ^ kdN kd) := hx.2.2
  have hbd := two_kd hk
  cases mt
  · cbv
    refine loop_inv [0, 1, 7, 8] (fun (j : Nat) => j ≤ l.length) (fun j => ⟨[.sl 0 (.l 0) (.l 0) 1 (.t fun _ => l.length) (.t fun _ => l.length) false, .func (.func 43) [] [.ptr 1 (.l 0) (.l 0)], .undef, .undef, .undef, .undef, .undef, .int .i64 (.t fun _ => ofN l.length), .int .i64 (.t fun _ => ofN j), .undef, .undef, .undef, .undef, .undef, .undef, .undef, .undef, .undef, .undef], AllX.heap ⟨l, false, kd⟩⟩) (fun j => l.length - j) 0 (Nat.zero_le _) ?_ ?_
    · cbv
      repeat' first | apply And.intro | exact trivial | exact SameI.mk (by with_reducible rfl) | exact SameN.mk (by with_reducible rfl) | exact SameL.mk (by with_reducible rfl) | exact SameB.mk (by with_reducible rfl) | exact LeN.mk (by with_reducible exact Nat.le_refl _) | apply SameI.mk | apply SameN.mk | apply SameL.mk | apply SameB.mk | apply LeN.mk
      all_goals first | rfl | exact (ofN_succ _).symm | (simp only [toNat_ofN, NX.v, IX.v, Nat.le_refl]; done) | ((try simp only [toNat_ofN, NX.v, IX.v, nadd, nsub]); omega) | skip
    · intro j R hj hR
      cbv
      refine Br.mk (fun hc => ?_) (fun hc => ?_)
      · have hj2 := lt_len hc
        have hv := hb j hj2
        have j0 := ofN_nonneg j
        cbv
        refine Chk.mk (idx1 hj2) ?_
        cbv
        refine Chk.mk (idxN hj2) ?_
        cbv
        refine ⟨(kd, l.getD j 0), ⟨hk, hv⟩, Ent.of_wvs ?_, ?_, ?_⟩
        · cbv
          repeat' first | apply And.intro | exact trivial | exact SameI.mk (by with_reducible rfl) | exact SameN.mk (by with_reducible rfl) | exact SameL.mk (by with_reducible rfl) | exact SameB.mk (by with_reducible rfl) | exact LeN.mk (by with_reducible exact Nat.le_refl _) | apply SameI.mk | apply SameN.mk | apply SameL.mk | apply SameB.mk | apply LeN.mk
          all_goals first | rfl | exact (ofN_succ _).symm | (simp only [toNat_ofN, NX.v, IX.v, Nat.le_refl]; done) | ((try simp only [toNat_ofN, NX.v, IX.v, nadd, nsub]); omega) | skip
          all_goals exact at1_nums l j
        · cbv
          repeat' first | apply And.intro | exact trivial | exact SameI.mk (by with_reducible rfl) | exact SameN.mk (by with_reducible rfl) | exact SameL.mk (by with_reducible rfl) | exact SameB.mk (by with_reducible rfl) | exact LeN.mk (by with_reducible exact Nat.le_refl _) | apply SameI.mk | apply SameN.mk | apply SameL.mk | apply SameB.mk | apply LeN.mk
          all_goals first | rfl | exact (ofN_succ _).symm | (simp only [toNat_ofN, NX.v, IX.v, Nat.le_refl]; done) | ((try simp only [toNat_ofN, NX.v, IX.v, nadd, nsub]); omega) | skip
        cbv
        refine Chk.mk (inc64 hj2 (by omega)) ?_
        cbv
        refine .mk (hR (j + 1) _ hj2 (by omega) ?_)
        cbv
        repeat' first | apply And.intro | exact trivial | exact SameI.mk (by with_reducible rfl) | exact SameN.mk (by with_reducible rfl) | exact SameL.mk (by with_reducible rfl) | exact SameB.mk (by with_reducible rfl) | exact LeN.mk (by with_reducible exact Nat.le_refl _) | apply SameI.mk | apply SameN.mk | apply SameL.mk | apply SameB.mk | apply LeN.mk
        all_goals first | rfl | exact (ofN_succ _).symm | (simp only [toNat_ofN, NX.v, IX.v, Nat.le_refl]; done) | ((try simp only [toNat_ofN, NX.v, IX.v, nadd, nsub]); omega) | skip
      · obtain rfl := ge_len hc hj
        cbv
        refine .mk ?_
        cbv
        refine .mk _ _ h2 ?_ ?_
        all_goals cbv
        all_goals repeat' first | apply And.intro | exact trivial | exact SameI.mk (by with_reducible rfl) | exact SameN.mk (by with_reducible rfl) | exact SameL.mk (by with_reducible rfl) | exact SameB.mk (by with_reducible rfl) | exact LeN.mk (by with_reducible exact Nat.le_refl _) | apply SameI.mk | apply SameN.mk | apply SameL.mk | apply SameB.mk | apply LeN.mk
        all_goals first | rfl | exact (ofN_succ _).symm | (simp only [toNat_ofN, NX.v, IX.v, Nat.le_refl]; done) | ((try simp only [toNat_ofN, NX.v, IX.v, nadd, nsub]); omega) | skip
  · cbv
    refine loop_inv [0, 1, 7, 8] (fun (j : Nat) => j ≤ l.length) (fun j => ⟨[.sl 0 (.l 0) (.l 0) 1 (.t fun _ => l.length) (.t fun _ => l.length) false, .func (.func 43) [] [.ptr 1 (.l 0) (.l 0)], .undef, .undef, .undef, .undef, .undef, .int .i64 (.t fun _ => ofN l.length), .int .i64 (.t fun _ => ofN j), .undef, .undef, .undef, .undef, .undef, .undef, .undef, .undef, .undef, .undef], AllX.heap ⟨l, true, kd⟩⟩) (fun j => l.length - j) 0 (Nat.zero_le _) ?_ ?_
    · cbv
      repeat' first | apply And.intro | exact trivial | exact SameI.mk (by with_reducible rfl) | exact SameN.mk (by with_reducible rfl) | exact SameL.mk (by with_reducible rfl) | exact SameB.mk (by with_reducible rfl) | exact LeN.mk (by with_reducible exact Nat.le_refl _) | apply SameI.mk | apply SameN.mk | apply SameL.mk | apply SameB.mk | apply LeN.mk
      all_goals first | rfl | exact (ofN_succ _).symm | (simp only [toNat_ofN, NX.v, IX.v, Nat.le_refl]; done) | ((try simp only [toNat_ofN, NX.v, IX.v, nadd, nsub]); omega) | skip
    · intro j R hj hR
      cbv
      refine Br.mk (fun hc => ?_) (fun hc => ?_)
      · have hj2 := lt_len hc
        have hv := hb j hj2
        have j0 := ofN_nonneg j
        cbv
        refine Chk.mk (idx1 hj2) ?_
        cbv
        refine Chk.mk (idxN hj2) ?_
        cbv
        refine ⟨(kd, l.getD j 0), ⟨hk, hv⟩, Ent.of_wvs ?_, ?_, ?_⟩
        · cbv
          repeat' first | apply And.intro | exact trivial | exact SameI.mk (by with_reducible rfl) | exact SameN.mk (by with_reducible rfl) | exact SameL.mk (by with_reducible rfl) | exact SameB.mk (by with_reducible rfl) | exact LeN.mk (by with_reducible exact Nat.le_refl _) | apply SameI.mk | apply SameN.mk | apply SameL.mk | apply SameB.mk | apply LeN.mk
          all_goals first | rfl | exact (ofN_succ _).symm | (simp only [toNat_ofN, NX.v, IX.v, Nat.le_refl]; done) | ((try simp only [toNat_ofN, NX.v, IX.v, nadd, nsub]); omega) | skip
          all_goals exact at1_nums l j
        · cbv
          repeat' first | apply And.intro | exact trivial | exact SameI.mk (by with_reducible rfl) | exact SameN.mk (by with_reducible rfl) | exact SameL.mk (by with_reducible rfl) | exact SameB.mk (by with_reducible rfl) | exact LeN.mk (by with_reducible exact Nat.le_refl _) | apply SameI.mk | apply SameN.mk | apply SameL.mk | apply SameB.mk | apply LeN.mk
          all_goals first | rfl | exact (ofN_succ _).symm | (simp only [toNat_ofN, NX.v, IX.v, Nat.le_refl]; done) | ((try simp only [toNat_ofN, NX.v, IX.v, nadd, nsub]); omega) | skip
        cbv
        refine Chk.mk (inc64 hj2 (by omega)) ?_
        cbv
        refine .mk (hR (j + 1) _ hj2 (by omega) ?_)
        cbv
        repeat' first | apply And.intro | exact trivial | exact SameI.mk (by with_reducible rfl) | exact SameN.mk (by with_reducible rfl) | exact SameL.mk (by with_reducible rfl) | exact SameB.mk (by with_reducible rfl) | exact LeN.mk (by with_reducible exact Nat.le_refl _) | apply SameI.mk | apply SameN.mk | apply SameL.mk | apply SameB.mk | apply LeN.mk
        all_goals first | rfl | exact (ofN_succ _).symm | (simp only [toNat_ofN, NX.v, IX.v, Nat.le_refl]; done) | ((try simp only [toNat_ofN, NX.v, IX.v, nadd, nsub]); omega) | skip
      · obtain rfl := ge_len hc hj
        cbv
        refine .mk ?_
        cbv
        refine .mk _ _ h2 ?_ ?_
        all_goals cbv
        all_goals repeat' first | apply And.intro | exact trivial | exact SameI.mk (by with_reducible rfl) | exact SameN.mk (by with_reducible rfl) | exact SameL.mk (by with_reducible rfl) | exact SameB.mk (by with_reducible rfl) | exact LeN.mk (by with_reducible exact Nat.le_refl _) | apply SameI.mk | apply SameN.mk | apply SameL.mk | apply SameB.mk | apply LeN.mk
        all_goals first | rfl | exact (ofN_succ _).symm | (simp only [toNat_ofN, NX.v, IX.v, Nat.le_refl]; done) | ((try simp only [toNat_ofN, NX.v, IX.v, nadd, nsub]); omega) | skip
theorem idxS : Sound Tryd.prog 57 (cIdx 44 fun kd => 2 ^ fN kd) := by
  refine k57.con tabOk f6 mixed o57 fun x K hx h2 => ?_
  obtain ⟨l, mt, kd⟩ := x
  have hk : Kind3 kd := hx.1
  have hl : l.length ≤ 1000 := hx.2.1
  have hb : Below l (2 ^ fN kd) := hx.2.2
  have hbd := two_kd hk
  cases mt
  · cbv
    refine loop_inv [0, 1, 7, 8] (fun (j : Nat) => j ≤ l.length) (fun j => ⟨[.sl 0 (.l 0) (.l 0) 1 (.t fun _ => l.length) (.t fun _ => l.length) false, .func (.func 44) [] [.ptr 1 (.l 0) (.l 0)], .undef, .undef, .undef, .undef, .undef, .int .i64 (.t fun _ => ofN l.length), .int .i64 (.t fun _ => ofN j), .undef, .undef, .undef, .undef, .undef, .undef, .undef, .undef, .undef, .undef], AllX.heap ⟨l, false, kd⟩⟩) (fun j => l.length - j) 0 (Nat.zero_le _) ?_ ?_
    · cbv
      repeat' first | apply And.intro | exact trivial | exact SameI.mk (by with_reducible rfl) | exact SameN.mk (by with_reducible rfl) | exact SameL.mk (by with_reducible rfl) | exact SameB.mk (by with_reducible rfl) | exact LeN.mk (by with_reducible exact Nat.le_refl _) | apply SameI.mk | apply SameN.mk | apply SameL.mk | apply SameB.mk | apply LeN.mk
      all_goals first | rfl | exact (ofN_succ _).symm | (simp only [toNat_ofN, NX.v, IX.v, Nat.le_refl]; done) | ((try simp only [toNat_ofN, NX.v, IX.v, nadd, nsub]); omega) | skip
    · intro j R hj hR
      cbv
      refine Br.mk (fun hc => ?_) (fun hc => ?_)
      · have hj2 := lt_len hc
        have hv := hb j hj2
        have j0 := ofN_nonneg j
        cbv
        refine Chk.mk (idx1 hj2) ?_
        cbv
        refine Chk.mk (idxN hj2) ?_
        cbv
        refine ⟨(kd, l.getD j 0), ⟨hk, hv⟩, Ent.of_wvs ?_, ?_, ?_⟩
        · cbv
          repeat' first | apply And.intro | exact trivial | exact SameI.mk (by with_reducible rfl) | exact SameN.mk (by with_reducible rfl) | exact SameL.mk (by with_reducible rfl) | exact SameB.mk (by with_reducible rfl) | exact LeN.mk (by with_reducible exact Nat.le_refl _) | apply SameI.mk | apply SameN.mk | apply SameL.mk | apply SameB.mk | apply LeN.mk
          all_goals first | rfl | exact (ofN_succ _).symm | (simp only [toNat_ofN, NX.v, IX.v, Nat.le_refl]; done) | ((try simp only [toNat_ofN, NX.v, IX.v, nadd, nsub]); omega) | skip
          all_goals exact at1_nums l j
        · cbv
          repeat' first | apply And.intro | exact trivial | exact SameI.mk (by with_reducible rfl) | exact SameN.mk (by with_reducible rfl) | exact SameL.mk (by with_reducible rfl) | exact SameB.mk (by with_reducible rfl) | exact LeN.mk (by with_reducible exact Nat.le_refl _) | apply SameI.mk | apply SameN.mk | apply SameL.mk | apply SameB.mk | apply LeN.mk
          all_goals first | rfl | exact (ofN_succ _).symm | (simp only [toNat_ofN, NX.v, IX.v, Nat.le_refl]; done) | ((try simp only [toNat_ofN, NX.v, IX.v, nadd, nsub]); omega) | skip
        cbv
        refine Chk.mk (inc64 hj2 (by omega)) ?_
        cbv
        refine .mk (hR (j + 1) _ hj2 (by omega) ?_)
        cbv
        repeat' first | apply And.intro | exact trivial | exact SameI.mk (by with_reducible rfl) | exact SameN.mk (by with_reducible rfl) | exact SameL.mk (by with_reducible rfl) | exact SameB.mk (by with_reducible rfl) | exact LeN.mk (by with_reducible exact Nat.le_refl _) | apply SameI.mk | apply SameN.mk | apply SameL.mk | apply SameB.mk | apply LeN.mk
        all_goals first | rfl | exact (ofN_succ _).symm | (simp only [toNat_ofN, NX.v, IX.v, Nat.le_refl]; done) | ((try simp only [toNat_ofN, NX.v, IX.v, nadd, nsub]); omega) | skip
      · obtain rfl := ge_len hc hj
        cbv
        refine .mk ?_
        cbv
        refine .mk _ _ h2 ?_ ?_
        all_goals cbv
        all_goals repeat' first | apply And.intro | exact trivial | exact SameI.mk (by with_reducible rfl) | exact SameN.mk (by with_reducible rfl) | exact SameL.mk (by with_reducible rfl) | exact SameB.mk (by with_reducible rfl) | exact LeN.mk (by with_reducible exact Nat.le_refl _) | apply SameI.mk | apply SameN.mk | apply SameL.mk | apply SameB.mk | apply LeN.mk
        all_goals first | rfl | exact (ofN_succ _).symm | (simp only [toNat_ofN, NX.v, IX.v, Nat.le_refl]; done) | ((try simp only [toNat_ofN, NX.v, IX.v, nadd, nsub]); omega) | skip
  · cbv
    refine loop_inv [0, 1, 7, 8] (fun (j : Nat) => j ≤ l.length) (fun j => ⟨[.sl 0 (.l 0) (.l 0) 1 (.t fun _ => l.length) (.t fun _ => l.length) false, .func (.func 44) [] [.ptr 1 (.l 0) (.l 0)], .undef, .undef, .undef, .undef, .undef, .int .i64 (.t fun _ => ofN l.length), .int .i64 (.t fun _ => ofN j), .undef, .undef, .undef, .undef, .undef, .undef, .undef, .undef, .undef, .undef], AllX.heap ⟨l, true, kd⟩⟩) (fun j => l.length - j) 0 (Nat.zero_le _) ?_ ?_
    · cbv
      repeat' first | apply And.intro | exact trivial | exact SameI.mk (by with_reducible rfl) | exact SameN.mk (by with_reducible rfl) | exact SameL.mk (by with_reducible rfl) | exact SameB.mk (by with_reducible rfl) | exact LeN.mk (by with_reducible exact Nat.le_refl _) | apply SameI.mk | apply SameN.mk | apply SameL.mk | apply SameB.mk | apply LeN.mk
      all_goals first | rfl | exact (ofN_succ _).symm | (simp only [toNat_ofN, NX.v, IX.v, Nat.le_refl]; done) | ((try simp only [toNat_ofN, NX.v, IX.v, nadd, nsub]); omega) | skip
    · intro j R hj hR
      cbv
      refine Br.mk (fun hc => ?_) (fun hc => ?_)
      · have hj2 := lt_len hc
        have hv := hb j hj2
        have j0 := ofN_nonneg j
        cbv
        refine Chk.mk (idx1 hj2) ?_
        cbv
        refine Chk.mk (idxN hj2) ?_
        cbv
        refine ⟨(kd, l.getD j 0), ⟨hk, hv⟩, Ent.of_wvs ?_, ?_, ?_⟩
        · cbv
          repeat' first | apply And.intro | exact trivial | exact SameI.mk (by with_reducible rfl) | exact SameN.mk (by with_reducible rfl) | exact SameL.mk (by with_reducible rfl) | exact SameB.mk (by with_reducible rfl) | exact LeN.mk (by with_reducible exact Nat.le_refl _) | apply SameI.mk | apply SameN.mk | apply SameL.mk | apply SameB.mk | apply LeN.mk
          all_goals first | rfl | exact (ofN_succ _).symm | (simp only [toNat_ofN, NX.v, IX.v, Nat.le_refl]; done) | ((try simp only [toNat_ofN, NX.v, IX.v, nadd, nsub]); omega) | skip
          all_goals exact at1_nums l j
        · cbv
          repeat' first | apply And.intro | exact trivial | exact SameI.mk (by with_reducible rfl) | exact SameN.mk (by with_reducible rfl) | exact SameL.mk (by with_reducible rfl) | exact SameB.mk (by with_reducible rfl) | exact LeN.mk (by with_reducible exact Nat.le_refl _) | apply SameI.mk | apply SameN.mk | apply SameL.mk | apply SameB.mk | apply LeN.mk
          all_goals first | rfl | exact (ofN_succ _).symm | (simp only [toNat_ofN, NX.v, IX.v, Nat.le_refl]; done) | ((try simp only [toNat_ofN, NX.v, IX.v, nadd, nsub]); omega) | skip
        cbv
        refine Chk.mk (inc64 hj2 (by omega)) ?_
        cbv
        refine .mk (hR (j + 1) _ hj2 (by omega) ?_)
        cbv
        repeat' first | apply And.intro | exact trivial | exact SameI.mk (by with_reducible rfl) | exact SameN.mk (by with_reducible rfl) | exact SameL.mk (by with_reducible rfl) | exact SameB.mk (by with_reducible rfl) | exact LeN.mk (by with_reducible exact Nat.le_refl _) | apply SameI.mk | apply SameN.mk | apply SameL.mk | apply SameB.mk | apply LeN.mk
        all_goals first | rfl | exact (ofN_succ _).symm | (simp only [toNat_ofN, NX.v, IX.v, Nat.le_refl]; done) | ((try simp only [toNat_ofN, NX.v, IX.v, nadd, nsub]); omega) | skip
      · obtain rfl := ge_len hc hj
        cbv
        refine .mk ?_
        cbv
        refine .mk _ _ h2 ?_ ?_
        all_goals cbv
        all_goals repeat' first | apply And.intro | exact trivial | exact SameI.mk (by with_reducible rfl) | exact SameN.mk (by with_reducible rfl) | exact SameL.mk (by with_reducible rfl) | exact SameB.mk (by with_reducible rfl) | exact LeN.mk (by with_reducible exact Nat.le_refl _) | apply SameI.mk | apply SameN.mk | apply SameL.mk | apply SameB.mk | apply LeN.mk
        all_goals first | rfl | exact (ofN_succ _).symm | (simp only [toNat_ofN, NX.v, IX.v, Nat.le_refl]; done) | ((try simp only [toNat_ofN, NX.v, IX.v, nadd, nsub]); omega) | skip
def cHas (g : Nat) (b : Nat → Nat) : Con := con (fun x : AllX => [.sl 0 (.l 0) (.l 0) 1 (.t fun _ => x.l.length) (.t fun _ => x.l.length) false, .func (.func g) [] [.ptr 1 (.l 0) (.l 0)]]) AllX.heap (fun x => Kind3 x.kd ∧ x.l.length ≤ 1000 ∧ Below x.l (b x.kd)) (fun x K => K (.bool (.l false)) x.heap)
theorem f7 : EnvOk Tryd.prog (env [(57, cIdx 43 fun kd => 2 ^ kdN kd)]) := envOk_cons envOk_nil idxM k57.callable
theorem hasM : Sound Tryd.prog 42 (cHas 43 fun kd => 2 ^ kdN kd) := by
  refine k42.con tabOk f7 mixed o42 fun x K hx h2 => ?_
  obtain ⟨l, mt, kd⟩ := x
  cases mt
  · cbv
    refine ⟨⟨l, false, kd⟩, hx, Ent.of_wvs ?_, ?_, ?_⟩
    · cbv
      repeat' first | apply And.intro | exact trivial | exact SameI.mk (by with_reducible rfl) | exact SameN.mk (by with_reducible rfl) | exact SameL.mk (by with_reducible rfl) | exact SameB.mk (by with_reducible rfl) | exact LeN.mk (by with_reducible exact Nat.le_refl _) | apply SameI.mk | apply SameN.mk | apply SameL.mk | apply SameB.mk | apply LeN.mk
      all_goals first | rfl | exact (ofN_succ _).symm | (simp only [toNat_ofN, NX.v, IX.v, Nat.le_refl]; done) | ((try simp only [toNat_ofN, NX.v, IX.v, nadd, nsub]); omega) | skip
    · cbv
      repeat' first | apply And.intro | exact trivial | exact SameI.mk (by with_reducible rfl) | exact SameN.mk (by with_reducible rfl) | exact SameL.mk (by with_reducible rfl) | exact SameB.mk (by with_reducible rfl) | exact LeN.mk (by with_reducible exact Nat.le_refl _) | apply SameI.mk | apply SameN.mk | apply SameL.mk | apply SameB.mk | apply LeN.mk
      all_goals first | rfl | exact (ofN_succ _).symm | (simp only [toNat_ofN, NX.v, IX.v, Nat.le_refl]; done) | ((try simp only [toNat_ofN, NX.v, IX.v, nadd, nsub]); omega) | skip
    cbv
    refine .mk _ _ h2 ?_ ?_
    all_goals cbv
    all_goals repeat' first | apply And.intro | exact trivial | exact SameI.mk (by with_reducible rfl) | exact SameN.mk (by with_reducible rfl) | exact SameL.mk (by with_reducible rfl) | exact SameB.mk (by with_reducible rfl) | exact LeN.mk (by with_reducible exact Nat.le_refl _) | apply SameI.mk | apply SameN.mk | apply SameL.mk | apply SameB.mk | apply LeN.mk
    all_goals first | rfl | exact (ofN_succ _).symm | (simp only [toNat_ofN, NX.v, IX.v, Nat.le_refl]; done) | ((try simp only [toNat_ofN, NX.v, IX.v, nadd, nsub]); omega) | skip
  · cbv
    refine ⟨⟨l, true, kd⟩, hx, Ent.of_wvs ?_, ?_, ?_⟩
    · cbv
      repeat' first | apply And.intro | exact trivial | exact SameI.mk (by with_reducible rfl) | exact SameN.mk (by with_reducible rfl) | exact SameL.mk (by with_reducible rfl) | exact SameB.mk (by with_reducible rfl) | exact LeN.mk (by with_reducible exact Nat.le_refl _) | apply SameI.mk | apply SameN.mk | apply SameL.mk | apply SameB.mk | apply LeN.mk
      all_goals first | rfl | exact (ofN_succ _).symm | (simp only [toNat_ofN, NX.v, IX.v, Nat.le_refl]; done) | ((try simp only [toNat_ofN, NX.v, IX.v, nadd, nsub]); omega) | skip
    · cbv
      repeat' first | apply And.intro | exact trivial | exact SameI.mk (by with_reducible rfl) | exact SameN.mk (by with_reducible rfl) | exact SameL.mk (by with_reducible rfl) | exact SameB.mk (by with_reducible rfl) | exact LeN.mk (by with_reducible exact Nat.le_refl _) | apply SameI.mk | apply SameN.mk | apply SameL.mk | apply SameB.mk | apply LeN.mk
      all_goals first | rfl | exact (ofN_succ _).symm | (simp only [toNat_ofN, NX.v, IX.v, Nat.le_refl]; done) | ((try simp only [toNat_ofN, NX.v, IX.v, nadd, nsub]); omega) | skip
    cbv
    refine .mk _ _ h2 ?_ ?_
    all_goals cbv
    all_goals repeat' first | apply And.intro | exact trivial | exact SameI.mk (by with_reducible rfl) | exact SameN.mk (by with_reducible rfl) | exact SameL.mk (by with_reducible rfl) | exact SameB.mk (by with_reducible rfl) | exact LeN.mk (by with_reducible exact Nat.le_refl _) | apply SameI.mk | apply SameN.mk | apply SameL.mk | apply SameB.mk | apply LeN.mk
    all_goals first | rfl | exact (ofN_succ _).symm | (simp only [toNat_ofN, NX.v, IX.v, Nat.le_refl]; done) | ((try simp only [toNat_ofN, NX.v, IX.v, nadd, nsub]); omega) | skip
theorem f8 : EnvOk Tryd.prog (env [(57, cIdx 44 fun kd => 2 ^ fN kd)]) := envOk_cons envOk_nil idxS k57.callable
theorem hasS : Sound Tryd.prog 42 (cHas 44 fun kd => 2 ^ fN kd) := by
  refine k42.con tabOk f8 mixed o42 fun x K hx h2 => ?_
  obtain ⟨l, mt, kd⟩ := x
  cases mt
  · cbv
    refine ⟨⟨l, false, kd⟩, hx, Ent.of_wvs ?_, ?_, ?_⟩
    · cbv
      repeat' first | apply And.intro | exact trivial | exact SameI.mk (by with_reducible rfl) | exact SameN.mk (by with_reducible rfl) | exact SameL.mk (by with_reducible rfl) | exact SameB.mk (by with_reducible rfl) | exact LeN.mk (by with_reducible exact Nat.le_refl _) | apply SameI.mk | apply SameN.mk | apply SameL.mk | apply SameB.mk | apply LeN.mk
      all_goals first | rfl | exact (ofN_succ _).symm | (simp only [toNat_ofN, NX.v, IX.v, Nat.le_refl]; done) | ((try simp only [toNat_ofN, NX.v, IX.v, nadd, nsub]); omega) | skip
    · cbv
      repeat' first | apply And.intro | exact trivial | exact SameI.mk (by with_reducible rfl) | exact SameN.mk (by with_reducible rfl) | exact SameL.mk (by with_reducible rfl) | exact SameB.mk (by with_reducible rfl) | exact LeN.mk (by with_reducible exact Nat.le_refl _) | apply SameI.mk | apply SameN.mk | apply SameL.mk | apply SameB.mk | apply LeN.mk
      all_goals first | rfl | exact (ofN_succ _).symm | (simp only [toNat_ofN, NX.v, IX.v, Nat.le_refl]; done) | ((try simp only [toNat_ofN, NX.v, IX.v, nadd, nsub]); omega) | skip
    cbv
    refine .mk _ _ h2 ?_ ?_
    all_goals cbv
    all_goals repeat' first | apply And.intro | exact trivial | exact SameI.mk (by with_reducible rfl) | exact SameN.mk (by with_reducible rfl) | exact SameL.mk (by with_reducible rfl) | exact SameB.mk (by with_reducible rfl) | exact LeN.mk (by with_reducible exact Nat.le_refl _) | apply SameI.mk | apply SameN.mk | apply SameL.mk | apply SameB.mk | apply LeN.mk
    all_goals first | rfl | exact (ofN_succ _).symm | (simp only [toNat_ofN, NX.v, IX.v, Nat.le_refl]; done) | ((try simp only [toNat_ofN, NX.v, IX.v, nadd, nsub]); omega) | skip
  · cbv
    refine ⟨⟨l, true, kd⟩, hx, Ent.of_wvs ?_, ?_, ?_⟩
    · cbv
      repeat' first | apply And.intro | exact trivial | exact SameI.mk (by with_reducible rfl) | exact SameN.mk (by with_reducible rfl) | exact SameL.mk (by with_reducible rfl) | exact SameB.mk (by with_reducible rfl) | exact LeN.mk (by with_reducible exact Nat.le_refl _) | apply SameI.mk | apply SameN.mk | apply SameL.mk | apply SameB.mk | apply LeN.mk
      all_goals first | rfl | exact (ofN_succ _).symm | (simp only [toNat_ofN, NX.v, IX.v, Nat.le_refl]; done) | ((try simp only [toNat_ofN, NX.v, IX.v, nadd, nsub]); omega) | skip
    · cbv
      repeat' first | apply And.intro | exact trivial | exact SameI.mk (by with_reducible rfl) | exact SameN.mk (by with_reducible rfl) | exact SameL.mk (by with_reducible rfl) | exact SameB.mk (by with_reducible rfl) | exact LeN.mk (by with_reducible exact Nat.le_refl _) | apply SameI.mk | apply SameN.mk | apply SameL.mk | apply SameB.mk | apply LeN.mk
      all_goals first | rfl | exact (ofN_succ _).symm | (simp only [toNat_ofN, NX.v, IX.v, Nat.le_refl]; done) | ((try simp only [toNat_ofN, NX.v, IX.v, nadd, nsub]); omega) | skip
    cbv
    refine .mk _ _ h2 ?_ ?_
    all_goals cbv
    all_goals repeat' first | apply And.intro | exact trivial | exact SameI.mk (by with_reducible rfl) | exact SameN.mk (by with_reducible rfl) | exact SameL.mk (by with_reducible rfl) | exact SameB.mk (by with_reducible rfl) | exact LeN.mk (by with_reducible exact Nat.le_refl _) | apply SameI.mk | apply SameN.mk | apply SameL.mk | apply SameB.mk | apply LeN.mk
    all_goals first | rfl | exact (ofN_succ _).symm | (simp only [toNat_ofN, NX.v, IX.v, Nat.le_refl]; done) | ((try simp only [toNat_ofN, NX.v, IX.v, nadd, nsub]); omega) | skip
/-- are all entries below a bound: the slice, nobody's or somebody's -/
def cAllB (b : Nat → Nat) : Con := con (fun x : AllX => [.agg (codeC x.kd), .sl 0 (.l 0) (.l 0) 1 (.t fun _ => x.l.length) (.t fun _ => x.l.length) false]) (fun x => [some ⟨x.mt, .rows [.int .u16] fun _ => nums x.l⟩]) (fun x => Kind3 x.kd ∧ x.l.length ≤ 1000 ∧ Below x.l (b x.kd))
  (fun x K => K (.bool (.l true)) [some ⟨x.mt, .rows [.int .u16] fun _ => nums x.l⟩])
theorem f9 : EnvOk Tryd.prog (env [(42, cHas 43 fun kd => 2 ^ kdN kd)]) := envOk_cons envOk_nil hasM k42.callable
theorem s28 : Sound Tryd.prog 28 (cAllB fun kd => 2 ^ kdN kd) := by
  refine k28.con tabOk f9 mixed o28 fun x K hx h2 => ?_
  obtain ⟨l, mt, kd⟩ := x
  cases mt
  · cbv
    refine ⟨⟨l, false, kd⟩, hx, Ent.of_wvs ?_, ?_, ?_⟩
    · cbv
      repeat' first | apply And.intro | exact trivial | exact SameI.mk (by with_reducible rfl) | exact SameN.mk (by with_reducible rfl) | exact SameL.mk (by with_reducible rfl) | exact SameB.mk (by with_reducible rfl) | exact LeN.mk (by with_reducible exact Nat.le_refl _) | apply SameI.mk | apply SameN.mk | apply SameL.mk | apply SameB.mk | apply LeN.mk
      all_goals first | rfl | exact (ofN_succ _).symm | (simp only [toNat_ofN, NX.v, IX.v, Nat.le_refl]; done) | ((try simp only [toNat_ofN, NX.v, IX.v, nadd, nsub]); omega) | skip
    · cbv
      repeat' first | apply And.intro | exact trivial | exact SameI.mk (by with_reducible rfl) | exact SameN.mk (by with_reducible rfl) | exact SameL.mk (by with_reducible rfl) | exact SameB.mk (by with_reducible rfl) | exact LeN.mk (by with_reducible exact Nat.le_refl _) | apply SameI.mk | apply SameN.mk | apply SameL.mk | apply SameB.mk | apply LeN.mk
      all_goals first | rfl | exact (ofN_succ _).symm | (simp only [toNat_ofN, NX.v, IX.v, Nat.le_refl]; done) | ((try simp only [toNat_ofN, NX.v, IX.v, nadd, nsub]); omega) | skip
    cbv
    refine .mk _ _ h2 ?_ ?_
    all_goals cbv
    all_goals repeat' first | apply And.intro | exact trivial | exact SameI.mk (by with_reducible rfl) | exact SameN.mk (by with_reducible rfl) | exact SameL.mk (by with_reducible rfl) | exact SameB.mk (by with_reducible rfl) | exact LeN.mk (by with_reducible exact Nat.le_refl _) | apply SameI.mk | apply SameN.mk | apply SameL.mk | apply SameB.mk | apply LeN.mk
    all_goals first | rfl | exact (ofN_succ _).symm | (simp only [toNat_ofN, NX.v, IX.v, Nat.le_refl]; done) | ((try simp only [toNat_ofN, NX.v, IX.v, nadd, nsub]); omega) | skip
  · cbv
    refine ⟨⟨l, true, kd⟩, hx, Ent.of_wvs ?_, ?_, ?_⟩
    · cbv
      repeat' first | apply And.intro | exact trivial | exact SameI.mk (by with_reducible rfl) | exact SameN.mk (by with_reducible rfl) | exact SameL.mk (by with_reducible rfl) | exact SameB.mk (by with_reducible rfl) | exact LeN.mk (by with_reducible exact Nat.le_refl _) | apply SameI.mk | apply SameN.mk | apply SameL.mk | apply SameB.mk | apply LeN.mk
      all_goals first | rfl | exact (ofN_succ _).symm | (simp only [toNat_ofN, NX.v, IX.v, Nat.le_refl]; done) | ((try simp only [toNat_ofN, NX.v, IX.v, nadd, nsub]); omega) | skip
    · cbv
      repeat' first | apply And.intro | exact trivial | exact SameI.mk (by with_reducible rfl) | exact SameN.mk (by with_reducible rfl) | exact SameL.mk (by with_reducible rfl) | exact SameB.mk (by with_reducible rfl) | exact LeN.mk (by with_reducible exact Nat.le_refl _) | apply SameI.mk | apply SameN.mk | apply SameL.mk | apply SameB.mk | apply LeN.mk
      all_goals first | rfl | exact (ofN_succ _).symm | (simp only [toNat_ofN, NX.v, IX.v, Nat.le_refl]; done) | ((try simp only [toNat_ofN, NX.v, IX.v, nadd, nsub]); omega) | skip
    cbv
    refine .mk _ _ h2 ?_ ?_
    all_goals cbv
    all_goals repeat' first | apply And.intro | exact trivial | exact SameI.mk (by with_reducible rfl) | exact SameN.mk (by with_reducible rfl) | exact SameL.mk (by with_reducible rfl) | exact SameB.mk (by with_reducible rfl) | exact LeN.mk (by with_reducible exact Nat.le_refl _) | apply SameI.mk | apply SameN.mk | apply SameL.mk | apply SameB.mk | apply LeN.mk
    all_goals first | rfl | exact (ofN_succ _).symm | (simp only [toNat_ofN, NX.v, IX.v, Nat.le_refl]; done) | ((try simp only [toNat_ofN, NX.v, IX.v, nadd, nsub]); omega) | skip
theorem f10 : EnvOk Tryd.prog (env [(42, cHas 44 fun kd => 2 ^ fN kd)]) := envOk_cons envOk_nil hasS k42.callable
theorem s31 : Sound Tryd.prog 31 (cAllB fun kd => 2 ^ fN kd) := by
  refine k31.con tabOk f10 mixed o31 fun x K hx h2 => ?_
  obtain ⟨l, mt, kd⟩ := x
  cases mt
  · cbv
    refine ⟨⟨l, false, kd⟩, hx, Ent.of_wvs ?_, ?_, ?_⟩
    · cbv
      repeat' first | apply And.intro | exact trivial | exact SameI.mk (by with_reducible rfl) | exact SameN.mk (by with_reducible rfl) | exact SameL.mk (by with_reducible rfl) | exact SameB.mk (by with_reducible rfl) | exact LeN.mk (by with_reducible exact Nat.le_refl _) | apply SameI.mk | apply SameN.mk | apply SameL.mk | apply SameB.mk | apply LeN.mk
      all_goals first | rfl | exact (ofN_succ _).symm | (simp only [toNat_ofN, NX.v, IX.v, Nat.le_refl]; done) | ((try simp only [toNat_ofN, NX.v, IX.v, nadd, nsub]); omega) | skip
    · cbv
      repeat' first | apply And.intro | exact trivial | exact SameI.mk (by with_reducible rfl) | exact SameN.mk (by with_reducible rfl) | exact SameL.mk (by with_reducible rfl) | exact SameB.mk (by with_reducible rfl) | exact LeN.mk (by with_reducible exact Nat.le_refl _) | apply SameI.mk | apply SameN.mk | apply SameL.mk | apply SameB.mk | apply LeN.mk
      all_goals first | rfl | exact (ofN_succ _).symm | (simp only [toNat_ofN, NX.v, IX.v, Nat.le_refl]; done) | ((try simp only [toNat_ofN, NX.v, IX.v, nadd, nsub]); omega) | skip
    cbv
    refine .mk _ _ h2 ?_ ?_
    all_goals cbv
    all_goals repeat' first | apply And.intro | exact trivial | exact SameI.mk (by with_reducible rfl) | exact SameN.mk (by with_reducible rfl) | exact SameL.mk (by with_reducible rfl) | exact SameB.mk (by with_reducible rfl) | exact LeN.mk (by with_reducible exact Nat.le_refl _) | apply SameI.mk | apply SameN.mk | apply SameL.mk | apply SameB.mk | apply LeN.mk
    all_goals first | rfl | exact (ofN_succ _).symm | (simp only [toNat_ofN, NX.v, IX.v, Nat.le_refl]; done) | ((try simp only [toNat_ofN, NX.v, IX.v, nadd, nsub]); omega) | skip
  · cbv
    refine ⟨⟨l, true, kd⟩, hx, Ent.of_wvs ?_, ?_, ?_⟩
    · cbv
      repeat' first | apply And.intro | exact trivial | exact SameI.mk (by with_reducible rfl) | exact SameN.mk (by with_reducible rfl) | exact SameL.mk (by with_reducible rfl) | exact SameB.mk (by with_reducible rfl) | exact LeN.mk (by with_reducible exact Nat.le_refl _) | apply SameI.mk | apply SameN.mk | apply SameL.mk | apply SameB.mk | apply LeN.mk
      all_goals first | rfl | exact (ofN_succ _).symm | (simp only [toNat_ofN, NX.v, IX.v, Nat.le_refl]; done) | ((try simp only [toNat_ofN, NX.v, IX.v, nadd, nsub]); omega) | skip
    · cbv
      repeat' first | apply And.intro | exact trivial | exact SameI.mk (by with_reducible rfl) | exact SameN.mk (by with_reducible rfl) | exact SameL.mk (by with_reducible rfl) | exact SameB.mk (by with_reducible rfl) | exact LeN.mk (by with_reducible exact Nat.le_refl _) | apply SameI.mk | apply SameN.mk | apply SameL.mk | apply SameB.mk | apply LeN.mk
      all_goals first | rfl | exact (ofN_succ _).symm | (simp only [toNat_ofN, NX.v, IX.v, Nat.le_refl]; done) | ((try simp only [toNat_ofN, NX.v, IX.v, nadd, nsub]); omega) | skip
    cbv
    refine .mk _ _ h2 ?_ ?_
    all_goals cbv
    all_goals repeat' first | apply And.intro | exact trivial | exact SameI.mk (by with_reducible rfl) | exact SameN.mk (by with_reducible rfl) | exact SameL.mk (by with_reducible rfl) | exact SameB.mk (by with_reducible rfl) | exact LeN.mk (by with_reducible exact Nat.le_refl _) | apply SameI.mk | apply SameN.mk | apply SameL.mk | apply SameB.mk | apply LeN.mk
    all_goals first | rfl | exact (ofN_succ _).symm | (simp only [toNat_ofN, NX.v, IX.v, Nat.le_refl]; done) | ((try simp only [toNat_ofN, NX.v, IX.v, nadd, nsub]); omega) | skip
/-! ### templates -/
structure WordsX where
  l : List Nat
  mt : Bool
def WordsX.heap (x : WordsX) : Heap := [some ⟨x.mt, .rows [.int .u16] fun _ => nums x.l⟩]
def cMax : Con := con (fun x : WordsX => [.sl 0 (.l 0) (.l 0) 1 (.t fun _ => x.l.length) (.t fun _ => x.l.length) false]) WordsX.heap (fun x => 1 ≤ x.l.length ∧ x.l.length ≤ 1000 ∧ Below x.l 32768) (fun x K => ∀ v, v < 32768 → K (.int .u16 (.t fun _ => ofN v)) x.heap)
theorem mm_max {a b : Nat} : mm true (ofN a) (ofN b) = ofN (max a b) := by
  show (if ofN b > ofN a then ofN b else ofN a) = ofN (max a b)
  by_cases h : a < b
  · rw [if_pos (ofN_lt.2 h), Nat.max_eq_right (by omega)]
  · rw [if_neg (fun h' => h (ofN_lt.1 h')), Nat.max_eq_left (by omega)]
theorem s40 : Sound Tryd.prog 40 cMax := by
  refine k40.con tabOk envOk_nil mixed o40 fun x K hx h2 => ?_
  obtain ⟨l, mt⟩ := x
  have hl1 : 1 ≤ l.length := hx.1
  have hl : l.length ≤ 1000 := hx.2.1
  have hb : Below l 32768 := hx.2.2
  cases mt
  · cbv
    refine Br.f (fun hc => ?_) (fun hc => ?_)
    · have : ofN l.length < 1 := lt_t.1 hc
      simp only [ofN] at this; omega
    cbv
    refine Chk.mk (idx1 hl1) ?_
    cbv
    refine Chk.mk (idxN (i := 0) hl1) ?_
    cbv
    refine loop_inv [0, 3, 4] (fun (p : Nat × Nat) => 1 ≤ p.1 ∧ p.1 ≤ l.length ∧ p.2 < 32768) (fun p => ⟨[.sl 0 (.l 0) (.l 0) 1 (.t fun _ => l.length) (.t fun _ => l.length) false, .undef, .undef, .int .u16 (.t fun _ => ofN p.2), .int .i64 (.t fun _ => ofN p.1), .undef, .undef, .undef, .undef, .undef, .undef, .undef, .undef, .undef, .undef, .undef, .undef, .undef, .undef, .undef, .undef, .undef, .undef, .undef, .undef], WordsX.heap ⟨l, false⟩⟩) (fun p => l.length - p.1) (1, l.getD 0 0) ⟨Nat.le_refl _, hl1, hb 0 hl1⟩ ?_ ?_
    · cbv
      repeat' first | apply And.intro | exact trivial | exact SameI.mk (by with_reducible rfl) | exact SameN.mk (by with_reducible rfl) | exact SameL.mk (by with_reducible rfl) | exact SameB.mk (by with_reducible rfl) | exact LeN.mk (by with_reducible exact Nat.le_refl _) | apply SameI.mk | apply SameN.mk | apply SameL.mk | apply SameB.mk | apply LeN.mk
      all_goals first | rfl | exact (ofN_succ _).symm | (simp only [toNat_ofN, NX.v, IX.v, Nat.le_refl]; done) | ((try simp only [toNat_ofN, NX.v, IX.v, nadd, nsub]); omega) | skip
      all_goals exact at1_nums l 0
    · intro ⟨i, v⟩ R ⟨hi1, hi2, hv⟩ hR
      have i0 := ofN_nonneg i
      cbv
      refine Br.mk (fun hc => ?_) (fun hc => ?_)
      · have hj2 := lt_len hc
        have hvi := hb i hj2
        cbv
        refine Chk.mk (idx1 hj2) ?_
        cbv
        refine Chk.mk (idxN hj2) ?_
        cbv
        refine Chk.mk (inc64 hj2 (by omega)) ?_
        cbv
        refine .mk (hR (i + 1, max v (l.getD i 0)) _ ⟨by omega, hj2, by simp only; omega⟩ (by simp only; omega) ?_)
        cbv
        repeat' first | apply And.intro | exact trivial | exact SameI.mk (by with_reducible rfl) | exact SameN.mk (by with_reducible rfl) | exact SameL.mk (by with_reducible rfl) | exact SameB.mk (by with_reducible rfl) | exact LeN.mk (by with_reducible exact Nat.le_refl _) | apply SameI.mk | apply SameN.mk | apply SameL.mk | apply SameB.mk | apply LeN.mk
        all_goals first | rfl | exact (ofN_succ _).symm | (simp only [toNat_ofN, NX.v, IX.v, Nat.le_refl]; done) | ((try simp only [toNat_ofN, NX.v, IX.v, nadd, nsub]); omega) | skip
        all_goals (show mm true (ofN v) (at1 (nums l) (ofN i).toNat) = ofN (max v (l.getD i 0)); rw [at1_nums, mm_max])
      · cbv
        refine .mk ?_
        cbv
        refine .mk _ _ (h2 v hv) ?_ ?_
        all_goals cbv
        all_goals repeat' first | apply And.intro | exact trivial | exact SameI.mk (by with_reducible rfl) | exact SameN.mk (by with_reducible rfl) | exact SameL.mk (by with_reducible rfl) | exact SameB.mk (by with_reducible rfl) | exact LeN.mk (by with_reducible exact Nat.le_refl _) | apply SameI.mk | apply SameN.mk | apply SameL.mk | apply SameB.mk | apply LeN.mk
        all_goals rfl
  · cbv
    refine Br.f (fun hc => ?_) (fun hc => ?_)
    · have : ofN l.length < 1 := lt_t.1 hc
      simp only [ofN] at this; omega
    cbv
    refine Chk.mk (idx1 hl1) ?_
    cbv
    refine Chk.mk (idxN (i := 0) hl1) ?_
    cbv
    refine loop_inv [0, 3, 4] (fun (p : Nat × Nat) => 1 ≤ p.1 ∧ p.1 ≤ l.length ∧ p.2 < 32768) (fun p => ⟨[.sl 0 (.l 0) (.l 0) 1 (.t fun _ => l.length) (.t fun _ => l.length) false, .undef, .undef, .int .u16 (.t fun _ => ofN p.2), .int .i64 (.t fun _ => ofN p.1), .undef, .undef, .undef, .undef, .undef, .undef, .undef, .undef, .undef, .undef, .undef, .undef, .undef, .undef, .undef, .undef, .undef, .undef, .undef, .undef], WordsX.heap ⟨l, true⟩⟩) (fun p => l.length - p.1) (1, l.getD 0 0) ⟨Nat.le_refl _, hl1, hb 0 hl1⟩ ?_ ?_
    · cbv
      repeat' first | apply And.intro | exact trivial | exact SameI.mk (by with_reducible rfl) | exact SameN.mk (by with_reducible rfl) | exact SameL.mk (by with_reducible rfl) | exact SameB.mk (by with_reducible rfl) | exact LeN.mk (by with_reducible exact Nat.le_refl _) | apply SameI.mk | apply SameN.mk | apply SameL.mk | apply SameB.mk | apply LeN.mk
      all_goals first | rfl | exact (ofN_succ _).symm | (simp only [toNat_ofN, NX.v, IX.v, Nat.le_refl]; done) | ((try simp only [toNat_ofN, NX.v, IX.v, nadd, nsub]); omega) | skip
      all_goals exact at1_nums l 0
    · intro ⟨i, v⟩ R ⟨hi1, hi2, hv⟩ hR
      have i0 := ofN_nonneg i
      cbv
      refine Br.mk (fun hc => ?_) (fun hc => ?_)
      · have hj2 := lt_len hc
        have hvi := hb i hj2
        cbv
        refine Chk.mk (idx1 hj2) ?_
        cbv
        refine Chk.mk (idxN hj2) ?_
        cbv
        refine Chk.mk (inc64 hj2 (by omega)) ?_
        cbv
        refine .mk (hR (i + 1, max v (l.getD i 0)) _ ⟨by omega, hj2, by simp only; omega⟩ (by simp only; omega) ?_)
        cbv
        repeat' first | apply And.intro | exact trivial | exact SameI.mk (by with_reducible rfl) | exact SameN.mk (by with_reducible rfl) | exact SameL.mk (by with_reducible rfl) | exact SameB.mk (by with_reducible rfl) | exact LeN.mk (by with_reducible exact Nat.le_refl _) | apply SameI.mk | apply SameN.mk | apply SameL.mk | apply SameB.mk | apply LeN.mk
        all_goals first | rfl | exact (ofN_succ _).symm | (simp only [toNat_ofN, NX.v, IX.v, Nat.le_refl]; done) | ((try simp only [toNat_ofN, NX.v, IX.v, nadd, nsub]); omega) | skip
        all_goals (show mm true (ofN v) (at1 (nums l) (ofN i).toNat) = ofN (max v (l.getD i 0)); rw [at1_nums, mm_max])
      · cbv
        refine .mk ?_
        cbv
        refine .mk _ _ (h2 v hv) ?_ ?_
        all_goals cbv
        all_goals repeat' first | apply And.intro | exact trivial | exact SameI.mk (by with_reducible rfl) | exact SameN.mk (by with_reducible rfl) | exact SameL.mk (by with_reducible rfl) | exact SameB.mk (by with_reducible rfl) | exact LeN.mk (by with_reducible exact Nat.le_refl _) | apply SameI.mk | apply SameN.mk | apply SameL.mk | apply SameB.mk | apply LeN.mk
        all_goals rfl
def cTemplate : Con := con (fun x : WordsX => [.sl 0 (.l 0) (.l 0) 1 (.t fun _ => x.l.length) (.t fun _ => x.l.length) false]) WordsX.heap (fun x => 1 ≤ x.l.length ∧ x.l.length ≤ 4 ∧ Below x.l 32768) (fun x K => K (.bool (.l true)) x.heap)
theorem f11 : EnvOk Tryd.prog (env [(40, cMax)]) := envOk_cons envOk_nil s40 k40.callable
theorem s26 : Sound Tryd.prog 26 cTemplate := by
  refine k26.con tabOk f11 mixed o26 fun x K hx h2 => ?_
  obtain ⟨l, mt⟩ := x
  have hl1 : 1 ≤ l.length := hx.1
  have hl : l.length ≤ 4 := hx.2.1
  have hb : Below l 32768 := hx.2.2
  have hl10 : l.length ≤ 1000 := by omega
  cases mt
  · cbv
    refine Br.t (fun hc => ?_) (fun hc => ?_)
    rotate_left
    · have : ¬ 1 ≤ ofN l.length := ge_f.1 hc
      simp only [ofN] at this; omega
    cbv
    refine Br.t (fun hc => ?_) (fun hc => ?_)
    rotate_left
    · have : ¬ ofN l.length ≤ 4 := le_f.1 hc
      simp only [ofN] at this; omega
    cbv
    refine ⟨⟨l, false⟩, ⟨hl1, hl10, hb⟩, Ent.of_wvs ?_, ?_, fun v hv => ?_⟩
    · cbv
      repeat' first | apply And.intro | exact trivial | exact SameI.mk (by with_reducible rfl) | exact SameN.mk (by with_reducible rfl) | exact SameL.mk (by with_reducible rfl) | exact SameB.mk (by with_reducible rfl) | exact LeN.mk (by with_reducible exact Nat.le_refl _) | apply SameI.mk | apply SameN.mk | apply SameL.mk | apply SameB.mk | apply LeN.mk
      all_goals first | rfl | exact (ofN_succ _).symm | (simp only [toNat_ofN, NX.v, IX.v, Nat.le_refl]; done) | ((try simp only [toNat_ofN, NX.v, IX.v, nadd, nsub]); omega) | skip
    · cbv
      repeat' first | apply And.intro | exact trivial | exact SameI.mk (by with_reducible rfl) | exact SameN.mk (by with_reducible rfl) | exact SameL.mk (by with_reducible rfl) | exact SameB.mk (by with_reducible rfl) | exact LeN.mk (by with_reducible exact Nat.le_refl _) | apply SameI.mk | apply SameN.mk | apply SameL.mk | apply SameB.mk | apply LeN.mk
      all_goals first | rfl | exact (ofN_succ _).symm | (simp only [toNat_ofN, NX.v, IX.v, Nat.le_refl]; done) | ((try simp only [toNat_ofN, NX.v, IX.v, nadd, nsub]); omega) | skip
    have hv2 : cop .lt (ofN v) 32768 = true := lt_t.2 (by show ofN v < 32768; simp only [ofN]; omega)
    cbv
    refine .mk _ _ h2 ?_ ?_
    all_goals cbv
    all_goals repeat' first | apply And.intro | exact trivial | exact SameI.mk (by with_reducible rfl) | exact SameN.mk (by with_reducible rfl) | exact SameL.mk (by with_reducible rfl) | exact SameB.mk (by with_reducible rfl) | exact LeN.mk (by with_reducible exact Nat.le_refl _) | apply SameI.mk | apply SameN.mk | apply SameL.mk | apply SameB.mk | apply LeN.mk
    simp only [BX.v]
    exact hv2
  · cbv
    refine Br.t (fun hc => ?_) (fun hc => ?_)
    rotate_left
    · have : ¬ 1 ≤ ofN l.length := ge_f.1 hc
      simp only [ofN] at this; omega
    cbv
    refine Br.t (fun hc => ?_) (fun hc => ?_)
    rotate_left
    · have : ¬ ofN l.length ≤ 4 := le_f.1 hc
      simp only [ofN] at this; omega
    cbv
    refine ⟨⟨l, true⟩, ⟨hl1, hl10, hb⟩, Ent.of_wvs ?_, ?_, fun v hv => ?_⟩
    · cbv
      repeat' first | apply And.intro | exact trivial | exact SameI.mk (by with_reducible rfl) | exact SameN.mk (by with_reducible rfl) | exact SameL.mk (by with_reducible rfl) | exact SameB.mk (by with_reducible rfl) | exact LeN.mk (by with_reducible exact Nat.le_refl _) | apply SameI.mk | apply SameN.mk | apply SameL.mk | apply SameB.mk | apply LeN.mk
      all_goals first | rfl | exact (ofN_succ _).symm | (simp only [toNat_ofN, NX.v, IX.v, Nat.le_refl]; done) | ((try simp only [toNat_ofN, NX.v, IX.v, nadd, nsub]); omega) | skip
    · cbv
      repeat' first | apply And.intro | exact trivial | exact SameI.mk (by with_reducible rfl) | exact SameN.mk (by with_reducible rfl) | exact SameL.mk (by with_reducible rfl) | exact SameB.mk (by with_reducible rfl) | exact LeN.mk (by with_reducible exact Nat.le_refl _) | apply SameI.mk | apply SameN.mk | apply SameL.mk | apply SameB.mk | apply LeN.mk
      all_goals first | rfl | exact (ofN_succ _).symm | (simp only [toNat_ofN, NX.v, IX.v, Nat.le_refl]; done) | ((try simp only [toNat_ofN, NX.v, IX.v, nadd, nsub]); omega) | skip
    have hv2 : cop .lt (ofN v) 32768 = true := lt_t.2 (by show ofN v < 32768; simp only [ofN]; omega)
    cbv
    refine .mk _ _ h2 ?_ ?_
    all_goals cbv
    all_goals repeat' first | apply And.intro | exact trivial | exact SameI.mk (by with_reducible rfl) | exact SameN.mk (by with_reducible rfl) | exact SameL.mk (by with_reducible rfl) | exact SameB.mk (by with_reducible rfl) | exact LeN.mk (by with_reducible exact Nat.le_refl _) | apply SameI.mk | apply SameN.mk | apply SameL.mk | apply SameB.mk | apply LeN.mk
    simp only [BX.v]
    exact hv2
/-! ### tags -/
def partI (h a : Int) : Int := IntKind.u32.wrap (aop .mul (aop (.bits .xor .u32) h (IntKind.u32.wrap a)) 16777619)
def tagTo (l : List Nat) : Nat → Int
  | 0 => 2166136261
  | i + 1 => partI (partI (tagTo l i) (ofN (l.getD i 0 % 256))) (ofN (l.getD i 0 / 256))
def tagHalf (h : Int) (m : Nat) : Nat → Int
  | 0 => h
  | 1 => partI h (ofN (m % 256))
  | _ => partI (partI h (ofN (m % 256))) (ofN (m / 256))
def cTag : Con := con (fun x : WordsX => [.sl 0 (.l 0) (.l 0) 1 (.t fun _ => x.l.length) (.t fun _ => x.l.length) false]) WordsX.heap (fun x => x.l.length ≤ 1000 ∧ Below x.l 65536) (fun x K => K (.int .u32 (.t fun _ => tagTo x.l x.l.length)) x.heap)
theorem s29 : Sound Tryd.prog 29 cTag := by
  refine k29.con tabOk envOk_nil mixed o29 fun x K hx h2 => ?_
  obtain ⟨l, mt⟩ := x
  have hl : l.length ≤ 1000 := hx.1
  have hb : Below l 65536 := hx.2
  cases mt
  · cbv
    refine loop_inv [3, 8, 9, 10] (fun (i : Nat) => i ≤ l.length) (fun i => ⟨[.undef, .undef, .undef, .int .u32 (.t fun _ => tagTo l i), .undef, .undef, .undef, .undef, .sl 0 (.l 0) (.l 0) 1 (.t fun _ => l.length) (.t fun _ => l.length) false, .int .i64 (.t fun _ => ofN l.length), .int .i64 (.t fun _ => ofN i), .undef, .undef, .undef, .undef, .undef, .undef, .undef, .undef, .undef, .undef, .undef, .undef, .undef, .undef, .undef, .undef, .undef, .undef, .undef], WordsX.heap ⟨l, false⟩⟩) (fun i => l.length - i) 0 (Nat.zero_le _) ?_ ?_
    · cbv
      repeat' first | apply And.intro | exact trivial | exact SameI.mk (by with_reducible rfl) | exact SameN.mk (by with_reducible rfl) | exact SameL.mk (by with_reducible rfl) | exact SameB.mk (by with_reducible rfl) | exact LeN.mk (by with_reducible exact Nat.le_refl _) | apply SameI.mk | apply SameN.mk | apply SameL.mk | apply SameB.mk | apply LeN.mk
      all_goals first | rfl | exact (ofN_succ _).symm | (simp only [toNat_ofN, NX.v, IX.v, Nat.le_refl]; done) | ((try simp only [toNat_ofN, NX.v, IX.v, nadd, nsub]); omega) | skip
    · intro i R hi hR
      have i0 := ofN_nonneg i
      cbv
      refine Br.mk (fun hc => ?_) (fun hc => ?_)
      · have hi2 := lt_len hc
        have hm := hb i hi2
        have e0 := at1_nums l i
        have e1 : aop (.shr .u16) (ofN (l.getD i 0)) 8 = ofN (l.getD i 0 / 256) := shr16 (i := 8) (by decide)
        have e2 : aop (.bits .and .u16) (ofN (l.getD i 0)) 255 = ofN (l.getD i 0 % 256) := by
          rw [show (255 : Int) = ofN 255 from rfl, and16 hm (by decide), show (255 : Nat) = 2 ^ 8 - 1 from rfl, Nat.and_two_pow_sub_one_eq_mod]
        cbv
        refine Chk.mk (idx1 hi2) ?_
        cbv
        refine Chk.mk (idxN hi2) ?_
        cbv
        refine loop_inv [3, 8, 9, 10, 18, 19] (fun (j : Nat) => j ≤ 2) (fun j => ⟨[.undef, .undef, .undef, .int .u32 (.t fun _ => tagHalf (tagTo l i) (l.getD i 0) j), .undef, .undef, .undef, .undef, .sl 0 (.l 0) (.l 0) 1 (.t fun _ => l.length) (.t fun _ => l.length) false, .int .i64 (.t fun _ => ofN l.length), .int .i64 (.t fun _ => ofN i), .undef, .undef, .undef, .undef, .undef, .undef, .undef, .agg [.int .u16 (.t fun _ => ofN (l.getD i 0 % 256)), .int .u16 (.t fun _ => ofN (l.getD i 0 / 256))], .int .i64 (.t fun _ => ofN j), .undef, .undef, .undef, .undef, .undef, .undef, .undef, .undef, .undef, .undef], WordsX.heap ⟨l, false⟩⟩) (fun j => 2 - j) 0 (Nat.zero_le _) ?_ ?_
        · cbv
          repeat' first | apply And.intro | exact trivial | exact SameI.mk (by with_reducible rfl) | exact SameN.mk (by with_reducible rfl) | exact SameL.mk (by with_reducible rfl) | exact SameB.mk (by with_reducible rfl) | exact LeN.mk (by with_reducible exact Nat.le_refl _) | apply SameI.mk | apply SameN.mk | apply SameL.mk | apply SameB.mk | apply LeN.mk
          all_goals first | rfl | exact (ofN_succ _).symm | (simp only [toNat_ofN, NX.v, IX.v, Nat.le_refl]; done) | ((try simp only [toNat_ofN, NX.v, IX.v, nadd, nsub]); omega) | skip
          · show aop (.bits .and .u16) (at1 (nums l) (ofN i).toNat) 255 = ofN (l.getD i 0 % 256)
            rw [e0, e2]
          · show aop (.shr .u16) (at1 (nums l) (ofN i).toNat) 8 = ofN (l.getD i 0 / 256)
            rw [e0, e1]
        · intro j R2 hj hR2
          cbv
          refine Br.mk (fun hc2 => ?_) (fun hc2 => ?_)
          · have hj2 : j < 2 := by have : ofN j < 2 := lt_t.1 hc2; simp only [ofN] at this; omega
            cbv
            refine Chk.mk (ofN_in hj2) ?_
            cbv
            refine Chk.mk (inR64 (by rw [aop_add]; simp only [ofN]; omega)) ?_
            cbv
            refine .mk (hR2 (j + 1) _ hj2 (by omega) ?_)
            cbv
            repeat' first | apply And.intro | exact trivial | exact SameI.mk (by with_reducible rfl) | exact SameN.mk (by with_reducible rfl) | exact SameL.mk (by with_reducible rfl) | exact SameB.mk (by with_reducible rfl) | exact LeN.mk (by with_reducible exact Nat.le_refl _) | apply SameI.mk | apply SameN.mk | apply SameL.mk | apply SameB.mk | apply LeN.mk
            all_goals first | rfl | exact (ofN_succ _).symm | (simp only [toNat_ofN, NX.v, IX.v, Nat.le_refl]; done) | ((try simp only [toNat_ofN, NX.v, IX.v, nadd, nsub]); omega) | skip
            all_goals (obtain rfl | rfl : j = 0 ∨ j = 1 := by omega)
            all_goals rfl
          · obtain rfl : j = 2 := by have : ¬ ofN j < 2 := lt_f.1 hc2; simp only [ofN] at this; omega
            cbv
            refine .mk ?_
            cbv
            refine Chk.mk (inc64 hi2 (by omega)) ?_
            cbv
            refine .mk (hR (i + 1) _ hi2 (by omega) ?_)
            cbv
            repeat' first | apply And.intro | exact trivial | exact SameI.mk (by with_reducible rfl) | exact SameN.mk (by with_reducible rfl) | exact SameL.mk (by with_reducible rfl) | exact SameB.mk (by with_reducible rfl) | exact LeN.mk (by with_reducible exact Nat.le_refl _) | apply SameI.mk | apply SameN.mk | apply SameL.mk | apply SameB.mk | apply LeN.mk
            all_goals first | rfl | exact (ofN_succ _).symm | (simp only [toNat_ofN, NX.v, IX.v, Nat.le_refl]; done) | ((try simp only [toNat_ofN, NX.v, IX.v, nadd, nsub]); omega) | skip
      · obtain rfl := ge_len hc hi
        cbv
        refine .mk ?_
        cbv
        refine .mk _ _ h2 ?_ ?_
        all_goals cbv
        all_goals repeat' first | apply And.intro | exact trivial | exact SameI.mk (by with_reducible rfl) | exact SameN.mk (by with_reducible rfl) | exact SameL.mk (by with_reducible rfl) | exact SameB.mk (by with_reducible rfl) | exact LeN.mk (by with_reducible exact Nat.le_refl _) | apply SameI.mk | apply SameN.mk | apply SameL.mk | apply SameB.mk | apply LeN.mk
        all_goals first | rfl | exact (ofN_succ _).symm | (simp only [toNat_ofN, NX.v, IX.v, Nat.le_refl]; done) | ((try simp only [toNat_ofN, NX.v, IX.v, nadd, nsub]); omega) | skip
  · cbv
    refine loop_inv [3, 8, 9, 10] (fun (i : Nat) => i ≤ l.length) (fun i => ⟨[.undef, .undef, .undef, .int .u32 (.t fun _ => tagTo l i), .undef, .undef, .undef, .undef, .sl 0 (.l 0) (.l 0) 1 (.t fun _ => l.length) (.t fun _ => l.length) false, .int .i64 (.t fun _ => ofN l.length), .int .i64 (.t fun _ => ofN i), .undef, .undef, .undef, .undef, .undef, .undef, .undef, .undef, .undef, .undef, .undef, .undef, .undef, .undef, .undef, .undef, .undef, .undef, .undef], WordsX.heap ⟨l, true⟩⟩) (fun i => l.length - i) 0 (Nat.zero_le _) ?_ ?_
    · cbv
      repeat' first | apply And.intro | exact trivial | exact SameI.mk (by with_reducible rfl) | exact SameN.mk (by with_reducible rfl) | exact SameL.mk (by with_reducible rfl) | exact SameB.mk (by with_reducible rfl) | exact LeN.mk (by with_reducible exact Nat.le_refl _) | apply SameI.mk | apply SameN.mk | apply SameL.mk | apply SameB.mk | apply LeN.mk
      all_goals first | rfl | exact (ofN_succ _).symm | (simp only [toNat_ofN, NX.v, IX.v, Nat.le_refl]; done) | ((try simp only [toNat_ofN, NX.v, IX.v, nadd, nsub]); omega) | skip
    · intro i R hi hR
      have i0 := ofN_nonneg i
      cbv
      refine Br.mk (fun hc => ?_) (fun hc => ?_)
      · have hi2 := lt_len hc
        have hm := hb i hi2
        have e0 := at1_nums l i
        have e1 : aop (.shr .u16) (ofN (l.getD i 0)) 8 = ofN (l.getD i 0 / 256) := shr16 (i := 8) (by decide)
        have e2 : aop (.bits .and .u16) (ofN (l.getD i 0)) 255 = ofN (l.getD i 0 % 256) := by
          rw [show (255 : Int) = ofN 255 from rfl, and16 hm (by decide), show (255 : Nat) = 2 ^ 8 - 1 from rfl, Nat.and_two_pow_sub_one_eq_mod]
        cbv
        refine Chk.mk (idx1 hi2) ?_
        cbv
        refine Chk.mk (idxN hi2) ?_
        cbv
        refine loop_inv [3, 8, 9, 10, 18, 19] (fun (j : Nat) => j ≤ 2) (fun j => ⟨[.undef, .undef, .undef, .int .u32 (.t fun _ => tagHalf (tagTo l i) (l.getD i 0) j), .undef, .undef, .undef, .undef, .sl 0 (.l 0) (.l 0) 1 (.t fun _ => l.length) (.t fun _ => l.length) false, .int .i64 (.t fun _ => ofN l.length), .int .i64 (.t fun _ => ofN i), .undef, .undef, .undef, .undef, .undef, .undef, .undef, .agg [.int .u16 (.t fun _ => ofN (l.getD i 0 % 256)), .int .u16 (.t fun _ => ofN (l.getD i 0 / 256))], .int .i64 (.t fun _ => ofN j), .undef, .undef, .undef, .undef, .undef, .undef, .undef, .undef, .undef, .undef], WordsX.heap ⟨l, true⟩⟩) (fun j => 2 - j) 0 (Nat.zero_le _) ?_ ?_
        · cbv
          repeat' first | apply And.intro | exact trivial | exact SameI.mk (by with_reducible rfl) | exact SameN.mk (by with_reducible rfl) | exact SameL.mk (by with_reducible rfl) | exact SameB.mk (by with_reducible rfl) | exact LeN.mk (by with_reducible exact Nat.le_refl _) | apply SameI.mk | apply SameN.mk | apply SameL.mk | apply SameB.mk | apply LeN.mk
          all_goals first | rfl | exact (ofN_succ _).symm | (simp only [toNat_ofN, NX.v, IX.v, Nat.le_refl]; done) | ((try simp only [toNat_ofN, NX.v, IX.v, nadd, nsub]); omega) | skip
          · show aop (.bits .and .u16) (at1 (nums l) (ofN i).toNat) 255 = ofN (l.getD i 0 % 256)
            rw [e0, e2]
          · show aop (.shr .u16) (at1 (nums l) (ofN i).toNat) 8 = ofN (l.getD i 0 / 256)
            rw [e0, e1]
        · intro j R2 hj hR2
          cbv
          refine Br.mk (fun hc2 => ?_) (fun hc2 => ?_)
          · have hj2 : j < 2 := by have : ofN j < 2 := lt_t.1 hc2; simp only [ofN] at this; omega
            cbv
            refine Chk.mk (ofN_in hj2) ?_
            cbv
            refine Chk.mk (inR64 (by rw [aop_add]; simp only [ofN]; omega)) ?_
            cbv
            refine .mk (hR2 (j + 1) _ hj2 (by omega) ?_)
            cbv
            repeat' first | apply And.intro | exact trivial | exact SameI.mk (by with_reducible rfl) | exact SameN.mk (by with_reducible rfl) | exact SameL.mk (by with_reducible rfl) | exact SameB.mk (by with_reducible rfl) | exact LeN.mk (by with_reducible exact Nat.le_refl _) | apply SameI.mk | apply SameN.mk | apply SameL.mk | apply SameB.mk | apply LeN.mk
            all_goals first | rfl | exact (ofN_succ _).symm | (simp only [toNat_ofN, NX.v, IX.v, Nat.le_refl]; done) | ((try simp only [toNat_ofN, NX.v, IX.v, nadd, nsub]); omega) | skip
            all_goals (obtain rfl | rfl : j = 0 ∨ j = 1 := by omega)
            all_goals rfl
          · obtain rfl : j = 2 := by have : ¬ ofN j < 2 := lt_f.1 hc2; simp only [ofN] at this; omega
            cbv
            refine .mk ?_
            cbv
            refine Chk.mk (inc64 hi2 (by omega)) ?_
            cbv
            refine .mk (hR (i + 1) _ hi2 (by omega) ?_)
            cbv
            repeat' first | apply And.intro | exact trivial | exact SameI.mk (by with_reducible rfl) | exact SameN.mk (by with_reducible rfl) | exact SameL.mk (by with_reducible rfl) | exact SameB.mk (by with_reducible rfl) | exact LeN.mk (by with_reducible exact Nat.le_refl _) | apply SameI.mk | apply SameN.mk | apply SameL.mk | apply SameB.mk | apply LeN.mk
            all_goals first | rfl | exact (ofN_succ _).symm | (simp only [toNat_ofN, NX.v, IX.v, Nat.le_refl]; done) | ((try simp only [toNat_ofN, NX.v, IX.v, nadd, nsub]); omega) | skip
      · obtain rfl := ge_len hc hi
        cbv
        refine .mk ?_
        cbv
        refine .mk _ _ h2 ?_ ?_
        all_goals cbv
        all_goals repeat' first | apply And.intro | exact trivial | exact SameI.mk (by with_reducible rfl) | exact SameN.mk (by with_reducible rfl) | exact SameL.mk (by with_reducible rfl) | exact SameB.mk (by with_reducible rfl) | exact LeN.mk (by with_reducible exact Nat.le_refl _) | apply SameI.mk | apply SameN.mk | apply SameL.mk | apply SameB.mk | apply LeN.mk
        all_goals first | rfl | exact (ofN_succ _).symm | (simp only [toNat_ofN, NX.v, IX.v, Nat.le_refl]; done) | ((try simp only [toNat_ofN, NX.v, IX.v, nadd, nsub]); omega) | skip
end Go.Proofs.YtlgmbpnlakjefaaDoor
end
