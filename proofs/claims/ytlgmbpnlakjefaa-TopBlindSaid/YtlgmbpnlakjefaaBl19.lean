/- Contracts: the law TopBlind itself. -/
import Derived.Test.YtlgmbpnlakjefaaBl18
namespace Go.Proofs.Ytlgmbpnlakjefaa
open Go.Sy
set_option maxRecDepth 100000
set_option maxHeartbeats 2000000
set_option linter.unusedSimpArgs false
set_option linter.unusedVariables false
structure RawK where
  n : Int
  perm : Int
  pad : Int
def RawK.row (k : RawK) : List D := [.i k.n, .i k.perm, .i k.pad]
def keyRows (f : Nat → RawK) : List (List D) := (List.range 4).map fun i => (f i).row
theorem keyRows_length (f : Nat → RawK) : (keyRows f).length = 4 := by simp [keyRows]
theorem keyRows_get (f : Nat → RawK) {i : Nat} (hi : i < 4) : (keyRows f).getD i [] = (f i).row := by simp [keyRows, List.getD_eq_getElem?_getD, hi]
structure BlindX where
  a : Nat
  b : Nat
  old : Nat → RawK
  young : Nat → RawK
  d : DealX
def BlindX.got (x : BlindX) : Prop := x.a < 18446744073709551616 ∧ x.b < 18446744073709551616 ∧ (∀ i, 0 ≤ (x.old i).pad ∧ (x.old i).pad ≤ 65535) ∧ (∀ i, 0 ≤ (x.young i).pad ∧ (x.young i).pad ≤ 65535) ∧ x.d.got
def BlindX.args (x : BlindX) : List AV := [.int .u64 (.t fun _ => ofN x.a), .int .u64 (.t fun _ => ofN x.b), .arr [.int .i64, .int .i64, .int .u16] fun _ => keyRows x.old, .arr [.int .i64, .int .i64, .int .u16] fun _ => keyRows x.young, .agg x.d.cells]
/-- the k-th word of 15 bits -/
def chunk (w k : Nat) : Nat := w / 2 ^ (k * 15) % 32768
theorem chunk_lt (w k : Nat) : chunk w k < 32768 := Nat.mod_lt _ (by decide)
def sumTo (a b : Nat) : Nat → Nat
  | 0 => 0
  | k + 1 => sumTo a b k + popN (chunk a k ^^^ chunk b k) 15
theorem sumTo_le (a b : Nat) : ∀ k, sumTo a b k ≤ 15 * k
  | 0 => Nat.le_refl _
  | k + 1 => by
    have h1 := sumTo_le a b k
    have h2 := popN_le (chunk a k ^^^ chunk b k) 15
    simp only [sumTo]; omega
theorem sumTo_pop (a b : Nat) : ∀ k, sumTo a b k = popN (a ^^^ b) (15 * k)
  | 0 => rfl
  | k + 1 => by
    simp only [sumTo]
    rw [sumTo_pop a b k, show 15 * (k + 1) = 15 * k + 15 by omega, popN_split]
    congr 1
    have e : chunk a k ^^^ chunk b k = ((a ^^^ b) / 2 ^ (15 * k)) % 2 ^ 15 := by
      apply Nat.eq_of_testBit_eq
      intro i
      unfold chunk
      rw [show (32768 : Nat) = 2 ^ 15 from rfl, Nat.mul_comm k 15]
      simp only [Nat.testBit_xor, Nat.testBit_mod_two_pow, Nat.testBit_div_two_pow]
      by_cases h : i < 15 <;> simp [h]
    rw [e, popN_mod _ _ _ (Nat.le_refl _)]
theorem valid_key {n perm pad : Int} (h : validB n perm pad = true) (hn : n = 15) (hp : 0 ≤ pad) : KeyX.ok ⟨15, perm, pad⟩ := by
  subst hn
  unfold validB at h
  simp only [Bool.and_eq_true, decide_eq_true_eq] at h
  obtain ⟨⟨⟨⟨h1, h2⟩, h3⟩, h4⟩, h5⟩ := h
  refine ⟨show 1 ≤ 15 by decide, show 15 ≤ 15 by decide, h3, ?_, hp, h5⟩
  rw [ofN_of h3] at h4
  exact ofN_lt.1 h4
theorem chunk_eq {a i : Nat} (ha : a < 18446744073709551616) (hi : i < 4) : IntKind.u16.wrap (aop (.bits .and .u64) (aop (.shr .u64) (ofN a) (aop .mul (ofN i) 15)) 32767) = ofN (chunk a i) := by
  have e : aop .mul (ofN i) 15 = ofN (i * 15) := by rw [aop_mul]; simp only [ofN]; omega
  have h1 : a / 2 ^ (i * 15) < 18446744073709551616 := Nat.lt_of_le_of_lt (Nat.div_le_self _ _) ha
  rw [e, shr64 (by omega), show (32767 : Int) = ofN 32767 from rfl, and64 h1 (by decide), show (32767 : Nat) = 2 ^ 15 - 1 from rfl, Nat.and_two_pow_sub_one_eq_mod, cut16]
  unfold chunk
  rw [show (2 : Nat) ^ 15 = 32768 from rfl, Nat.mod_eq_of_lt (by omega)]
theorem e29 : EnvOk Try.prog (env [(5, cAlive), (6, cValidDeal), (7, cValid), (8, cHide), (9, cRenew), (10, cLeast), (11, cCompare)]) :=
  envOk_cons (envOk_cons (envOk_cons (envOk_cons (envOk_cons (envOk_cons (envOk_cons envOk_nil s11 k11.callable) s10 k10.callable) s9 k9.callable) s8 k8.callable) s7 k7.callable) s6 k6.callable) s5 k5.callable
def cBlind : Con := con BlindX.args (fun _ => []) BlindX.got (fun _ K => K (.bool (.t fun _ => true)) [])
theorem pop_whole (x y : Nat) : popN (((x &&& whole) ^^^ (y &&& whole)) &&& whole) 64 = popN (x ^^^ y) 60 := by
  have e : ((x &&& whole) ^^^ (y &&& whole)) &&& whole = (x ^^^ y) % 2 ^ 60 := by
    rw [show whole = 2 ^ 60 - 1 from rfl, Nat.and_two_pow_sub_one_eq_mod, Nat.and_two_pow_sub_one_eq_mod, Nat.and_two_pow_sub_one_eq_mod]
    apply Nat.eq_of_testBit_eq
    intro i
    simp only [Nat.testBit_mod_two_pow, Nat.testBit_xor]
    by_cases h : i < 60 <;> simp [h]
  rw [e, show (64 : Nat) = 60 + 4 from rfl, popN_split, popN_mod _ _ _ (Nat.le_refl 60), Nat.div_eq_of_lt (Nat.mod_lt _ (by decide))]
  rfl
theorem ones_whole : ones (ofN whole) = 60 := by
  rw [ones_eq whole_lt]; rfl
theorem num_sum {a b : Nat} : ones (aop (.bits .and .u64) (aop (.bits .xor .u64) (ofN (a &&& whole)) (ofN (b &&& whole))) (ofN whole)) = ofN (sumTo a b 4) := by
  have w := whole_lt
  have h1 : a &&& whole ≤ whole := Nat.and_le_right
  have h2 : b &&& whole ≤ whole := Nat.and_le_right
  have h3 : (a &&& whole) ^^^ (b &&& whole) < 2 ^ 64 := Nat.xor_lt_two_pow (by omega) (by omega)
  rw [xor64 (by omega) (by omega), and64 h3 w, ones_eq (Nat.lt_of_le_of_lt Nat.and_le_right w), pop_whole, sumTo_pop]
attribute [local irreducible] hideI popN ones aop whole
theorem s3 : Sound Try.prog 3 cBlind := by
  refine k3.con tabOk e29 mixed o3 fun x K hg h2 => ?_
  obtain ⟨a, b, old, young, d0⟩ := x
  obtain ⟨dA, dB, dU, rc, rs, dT⟩ := d0
  have ha := hg.1
  have hb := hg.2.1
  have ho := hg.2.2.1
  have hy := hg.2.2.2.1
  have hd := hg.2.2.2.2
  cbv
  refine Chk.mk (keyRows_length _) ?_
  cbv
  refine Chk.mk (keyRows_length _) ?_
  cbv
  refine ⟨(), trivial, Ent.of_wvs ?_, trivial, ?_⟩
  · cbv
    repeat' first | apply And.intro | exact trivial | exact SameI.mk (by with_reducible rfl) | exact SameN.mk (by with_reducible rfl) | exact SameL.mk (by with_reducible rfl) | exact SameB.mk (by with_reducible rfl) | exact LeN.mk (by with_reducible exact Nat.le_refl _) | apply SameI.mk | apply SameN.mk | apply SameL.mk | apply SameB.mk | apply LeN.mk
    all_goals first | rfl | exact (ofN_succ _).symm | (simp only [toNat_ofN, NX.v, IX.v, Nat.le_refl]; done) | ((try simp only [toNat_ofN, NX.v, IX.v, nadd, nsub]); omega) | skip
  cbv
  refine ⟨⟨dA, dB, dU, rc, rs, dT⟩, hd.2, Ent.of_wvs ?_, trivial, ?_⟩
  · cbv
    repeat' first | apply And.intro | exact trivial | exact SameI.mk (by with_reducible rfl) | exact SameN.mk (by with_reducible rfl) | exact SameL.mk (by with_reducible rfl) | exact SameB.mk (by with_reducible rfl) | exact LeN.mk (by with_reducible exact Nat.le_refl _) | apply SameI.mk | apply SameN.mk | apply SameL.mk | apply SameB.mk | apply LeN.mk
    all_goals first | rfl | exact (ofN_succ _).symm | (simp only [toNat_ofN, NX.v, IX.v, Nat.le_refl]; done) | ((try simp only [toNat_ofN, NX.v, IX.v, nadd, nsub]); omega) | skip
  cbv
  refine Br.mk (fun c => ?_) (fun c => ?_)
  · cbv
    refine .mk _ _ h2 ?_ ?_
    all_goals cbv
    all_goals repeat' first | apply And.intro | exact trivial | exact SameI.mk (by with_reducible rfl) | exact SameN.mk (by with_reducible rfl) | exact SameL.mk (by with_reducible rfl) | exact SameB.mk (by with_reducible rfl) | exact LeN.mk (by with_reducible exact Nat.le_refl _) | apply SameI.mk | apply SameN.mk | apply SameL.mk | apply SameB.mk | apply LeN.mk
    all_goals first | rfl | exact (ofN_succ _).symm | (simp only [toNat_ofN, NX.v, IX.v, Nat.le_refl]; done) | ((try simp only [toNat_ofN, NX.v, IX.v, nadd, nsub]); omega) | skip
  have hv : validDealB ⟨dA, dB, dU, rc, rs, dT⟩ = true := bnot_f.1 c
  have hdl := deal_of_valid hv
  cbv
  refine Br.f (fun c => ?_) (fun c => ?_)
  · cases c
  cbv
  refine loop_inv [0, 1, 7, 8, 9, 11, 12, 36] (fun (i : Nat) => i ≤ 4) (fun i => ⟨[.int .u64 (.t fun _ => ofN a), .int .u64 (.t fun _ => ofN b), .undef, .undef, .undef, .undef, .undef, .ptr 0 (.l 0) (.l 0), .ptr 1 (.l 0) (.l 0), .ptr 2 (.l 0) (.l 0), .undef, .bool (.t fun _ => true), .int .i64 (.t fun _ => ofN (sumTo a b i)), .undef, .undef, .undef, .undef, .undef, .undef, .undef, .undef, .undef, .undef, .undef, .undef, .undef, .undef, .undef, .undef, .undef, .undef, .undef, .undef, .undef, .undef, .undef, .int .i64 (.t fun _ => ofN i), .undef, .undef, .undef, .undef, .undef, .undef, .undef, .undef, .undef, .undef, .undef, .undef, .undef, .undef, .undef, .undef, .undef, .undef, .undef, .undef, .undef, .undef, .undef, .undef, .undef, .undef, .undef, .undef, .undef, .undef, .undef, .undef, .undef, .undef, .undef, .undef, .undef, .undef, .undef, .undef, .undef, .undef, .undef, .undef, .undef, .undef, .undef, .undef, .undef, .undef, .undef, .undef, .undef, .undef, .undef, .undef, .undef, .undef, .undef, .undef, .undef, .undef, .undef, .undef, .undef, .undef, .undef, .undef, .undef, .undef, .undef, .undef, .undef, .undef, .undef, .undef, .undef, .undef, .undef, .undef, .undef, .undef, .undef, .undef, .undef, .undef, .undef, .undef, .undef, .undef, .undef, .undef, .undef, .undef, .undef, .undef, .undef, .undef, .undef, .undef, .undef, .undef, .undef, .undef, .undef, .undef, .undef, .undef, .undef, .undef, .undef, .undef, .undef, .undef, .undef, .undef, .undef, .undef, .undef, .undef, .undef, .undef, .undef, .undef, .undef],
    [some ⟨true, .rows [.int .i64, .int .i64, .int .u16] fun _ => keyRows old⟩, some ⟨true, .rows [.int .i64, .int .i64, .int .u16] fun _ => keyRows young⟩, some ⟨true, .cells (DealX.cells ⟨dA, dB, dU, rc, rs, dT⟩)⟩]⟩) (fun i => 4 - i) 0 (Nat.zero_le _) ?_ ?_
  · cbv
    repeat' first | apply And.intro | exact trivial | exact SameI.mk (by with_reducible rfl) | exact SameN.mk (by with_reducible rfl) | exact SameL.mk (by with_reducible rfl) | exact SameB.mk (by with_reducible rfl) | exact LeN.mk (by with_reducible exact Nat.le_refl _) | apply SameI.mk | apply SameN.mk | apply SameL.mk | apply SameB.mk | apply LeN.mk
    all_goals first | rfl | exact (ofN_succ _).symm | (simp only [toNat_ofN, NX.v, IX.v, Nat.le_refl]; done) | ((try simp only [toNat_ofN, NX.v, IX.v, nadd, nsub]); omega) | skip
  · intro i R hi hR
    have i0 := ofN_nonneg i
    cbv
    refine Br.mk (fun hc => ?_) (fun hc => ?_)
    · have hi2 : i < 4 := by have : ofN i < 4 := lt_t.1 hc; simp only [ofN] at this; omega
      have ro : ∀ f : Nat → RawK, (keyRows f).getD (ofN i).toNat [] = (f i).row := fun f => by rw [toNat_ofN]; exact keyRows_get f hi2
      have r0 : ∀ f : Nat → RawK, (((keyRows f).getD (ofN i).toNat []).getD 0 (.i 0)).int = (f i).n := fun f => by rw [ro]; rfl
      have r1 : ∀ f : Nat → RawK, (((keyRows f).getD (ofN i).toNat []).getD 1 (.i 0)).int = (f i).perm := fun f => by rw [ro]; rfl
      have r2 : ∀ f : Nat → RawK, (((keyRows f).getD (ofN i).toNat []).getD 2 (.i 0)).int = (f i).pad := fun f => by rw [ro]; rfl
      have ix : ∀ f : Nat → RawK, 0 ≤ ofN (ofN i).toNat ∧ ofN (ofN i).toNat < ((NX.t fun _ => (keyRows f).length).v : Int) := fun f => ofN_len (f := fun _ => (keyRows f).length) hi2 (keyRows_length f)
      have hoi := ho i
      have hyi := hy i
      cbv
      refine Chk.mk (ofN_in hi2) ?_
      cbv
      refine Chk.mk (ix old) ?_
      cbv
      refine ⟨((old i).n, (old i).perm, (old i).pad), hoi, Ent.of_wvs ?_, trivial, ?_⟩
      · cbv
        repeat' first | apply And.intro | exact trivial | exact SameI.mk (by with_reducible rfl) | exact SameN.mk (by with_reducible rfl) | exact SameL.mk (by with_reducible rfl) | exact SameB.mk (by with_reducible rfl) | exact LeN.mk (by with_reducible exact Nat.le_refl _) | apply SameI.mk | apply SameN.mk | apply SameL.mk | apply SameB.mk | apply LeN.mk
        · exact r0 old
        · exact r1 old
        · exact r2 old
      cbv
      refine Br.mk (fun c1 => ?_) (fun c1 => ?_)
      · cbv
        refine .mk ?_
        cbv
        refine .mk _ _ h2 ?_ ?_
        all_goals cbv
        all_goals repeat' first | apply And.intro | exact trivial | exact SameI.mk (by with_reducible rfl) | exact SameN.mk (by with_reducible rfl) | exact SameL.mk (by with_reducible rfl) | exact SameB.mk (by with_reducible rfl) | exact LeN.mk (by with_reducible exact Nat.le_refl _) | apply SameI.mk | apply SameN.mk | apply SameL.mk | apply SameB.mk | apply LeN.mk
        all_goals first | rfl | exact (ofN_succ _).symm | (simp only [toNat_ofN, NX.v, IX.v, Nat.le_refl]; done) | ((try simp only [toNat_ofN, NX.v, IX.v, nadd, nsub]); omega) | skip
      have c1 : validB (old i).n (old i).perm (old i).pad = true := bnot_f.1 c1
      cbv
      refine Chk.mk (ofN_in hi2) ?_
      cbv
      refine Chk.mk (ix young) ?_
      cbv
      refine ⟨((young i).n, (young i).perm, (young i).pad), hyi, Ent.of_wvs ?_, trivial, ?_⟩
      · cbv
        repeat' first | apply And.intro | exact trivial | exact SameI.mk (by with_reducible rfl) | exact SameN.mk (by with_reducible rfl) | exact SameL.mk (by with_reducible rfl) | exact SameB.mk (by with_reducible rfl) | exact LeN.mk (by with_reducible exact Nat.le_refl _) | apply SameI.mk | apply SameN.mk | apply SameL.mk | apply SameB.mk | apply LeN.mk
        · exact r0 young
        · exact r1 young
        · exact r2 young
      cbv
      refine Br.mk (fun c2 => ?_) (fun c2 => ?_)
      · cbv
        refine .mk ?_
        cbv
        refine .mk _ _ h2 ?_ ?_
        all_goals cbv
        all_goals repeat' first | apply And.intro | exact trivial | exact SameI.mk (by with_reducible rfl) | exact SameN.mk (by with_reducible rfl) | exact SameL.mk (by with_reducible rfl) | exact SameB.mk (by with_reducible rfl) | exact LeN.mk (by with_reducible exact Nat.le_refl _) | apply SameI.mk | apply SameN.mk | apply SameL.mk | apply SameB.mk | apply LeN.mk
        all_goals first | rfl | exact (ofN_succ _).symm | (simp only [toNat_ofN, NX.v, IX.v, Nat.le_refl]; done) | ((try simp only [toNat_ofN, NX.v, IX.v, nadd, nsub]); omega) | skip
      have c2 : validB (young i).n (young i).perm (young i).pad = true := bnot_f.1 c2
      cbv
      refine Chk.mk (ofN_in hi2) ?_
      cbv
      refine Chk.mk (ix old) ?_
      cbv
      refine Br.mk (fun c3 => ?_) (fun c3 => ?_)
      · cbv
        refine .mk ?_
        cbv
        refine .mk _ _ h2 ?_ ?_
        all_goals cbv
        all_goals repeat' first | apply And.intro | exact trivial | exact SameI.mk (by with_reducible rfl) | exact SameN.mk (by with_reducible rfl) | exact SameL.mk (by with_reducible rfl) | exact SameB.mk (by with_reducible rfl) | exact LeN.mk (by with_reducible exact Nat.le_refl _) | apply SameI.mk | apply SameN.mk | apply SameL.mk | apply SameB.mk | apply LeN.mk
        all_goals first | rfl | exact (ofN_succ _).symm | (simp only [toNat_ofN, NX.v, IX.v, Nat.le_refl]; done) | ((try simp only [toNat_ofN, NX.v, IX.v, nadd, nsub]); omega) | skip
      have c3 : (old i).n = 15 := (r0 old).symm.trans (ne_f.1 c3)
      cbv
      refine Chk.mk (ofN_in hi2) ?_
      cbv
      refine Chk.mk (ix young) ?_
      cbv
      refine Br.mk (fun c4 => ?_) (fun c4 => ?_)
      · cbv
        refine .mk ?_
        cbv
        refine .mk _ _ h2 ?_ ?_
        all_goals cbv
        all_goals repeat' first | apply And.intro | exact trivial | exact SameI.mk (by with_reducible rfl) | exact SameN.mk (by with_reducible rfl) | exact SameL.mk (by with_reducible rfl) | exact SameB.mk (by with_reducible rfl) | exact LeN.mk (by with_reducible exact Nat.le_refl _) | apply SameI.mk | apply SameN.mk | apply SameL.mk | apply SameB.mk | apply LeN.mk
        all_goals first | rfl | exact (ofN_succ _).symm | (simp only [toNat_ofN, NX.v, IX.v, Nat.le_refl]; done) | ((try simp only [toNat_ofN, NX.v, IX.v, nadd, nsub]); omega) | skip
      have c4 : (young i).n = 15 := (r0 young).symm.trans (ne_f.1 c4)
      have kO := valid_key c1 c3 hoi.1
      have kY := valid_key c2 c4 hyi.1
      have ca := chunk_eq ha hi2
      have cb := chunk_eq hb hi2
      have hm : inR .i64 (aop .mul (ofN i) 15) = true := inR64 (by rw [aop_mul]; simp only [ofN]; omega)
      have hm0 : 0 ≤ aop .mul (ofN i) 15 := by rw [aop_mul]; omega
      have wa := chunk_lt a i
      have wb := chunk_lt b i
      obtain ⟨ua, hua⟩ : ∃ u, u = ofN (chunk a i) := ⟨_, rfl⟩
      obtain ⟨ub, hub⟩ : ∃ u, u = ofN (chunk b i) := ⟨_, rfl⟩
      rw [← hua] at ca
      rw [← hub] at cb
      have ga : 0 ≤ ua ∧ ua < ofN (2 ^ 15) := by rw [hua]; exact ⟨ofN_nonneg _, ofN_lt.2 wa⟩
      have gb : 0 ≤ ub ∧ ub < ofN (2 ^ 15) := by rw [hub]; exact ⟨ofN_nonneg _, ofN_lt.2 wb⟩
      have ha65 : chunk a i < 65536 := by omega
      have hb65 : chunk b i < 65536 := by omega
      obtain ⟨kh, hkh⟩ : ∃ u, u = hideI ⟨15, (old i).perm, (old i).pad⟩ ua := ⟨_, rfl⟩
      have hid : kh = ofN (hideN ⟨15, (old i).perm, (old i).pad⟩ (chunk a i)) := by rw [hkh, hua, hideI_eq kO ha65]
      have ghid : 0 ≤ kh ∧ kh < ofN (2 ^ 15) := by rw [hid]; exact ⟨ofN_nonneg _, ofN_lt.2 (hideN_lt kO _)⟩
      have rk := ren_ok kO kY rfl
      obtain ⟨rp, hrp⟩ : ∃ u, u = renPerm ⟨15, (old i).perm, (old i).pad⟩ ⟨15, (young i).perm, (young i).pad⟩ := ⟨_, rfl⟩
      obtain ⟨rq, hrq⟩ : ∃ u, u = renPad ⟨15, (old i).perm, (old i).pad⟩ ⟨15, (young i).perm, (young i).pad⟩ := ⟨_, rfl⟩
      have rk2 : KeyX.ok ⟨15, rp, rq⟩ := by rw [hrp, hrq]; exact rk
      obtain ⟨kr, hkr⟩ : ∃ u, u = hideI ⟨15, rp, rq⟩ kh := ⟨_, rfl⟩
      obtain ⟨ky, hky⟩ : ∃ u, u = hideI ⟨15, (young i).perm, (young i).pad⟩ ub := ⟨_, rfl⟩
      have hl1 := hideN_lt kO (chunk a i)
      have hl2 := hideN_lt kY (chunk a i)
      have hl3 := hideN_lt kY (chunk b i)
      have hkr2 : kr = ofN (hideN ⟨15, (young i).perm, (young i).pad⟩ (chunk a i)) := by
        rw [hkr, hid, hideI_eq rk2 (Nat.lt_of_lt_of_le hl1 (show 2 ^ 15 ≤ 65536 by decide)), hrp, hrq]
        exact congrArg ofN (renewed kO kY rfl (chunk a i))
      have hky2 : ky = ofN (hideN ⟨15, (young i).perm, (young i).pad⟩ (chunk b i)) := by rw [hky, hub, hideI_eq kY hb65]
      obtain ⟨zk, hzk⟩ : ∃ u, u = popN (hideN ⟨15, (young i).perm, (young i).pad⟩ (chunk a i) ^^^ hideN ⟨15, (young i).perm, (young i).pad⟩ (chunk b i)) 15 := ⟨_, rfl⟩
      have hzk2 : zk = popN (chunk a i ^^^ chunk b i) 15 := by rw [hzk]; exact far_same kY (chunk a i) (chunk b i)
      have hzl : zk ≤ 15 := by rw [hzk2]; exact popN_le _ _
      have hls : LeastX.ok ⟨⟨dA, dB, dU, rc, rs, dT⟩, kr, ky, zk⟩ := by
        rw [hkr2, hky2, hzk]
        exact least_ok hd hdl hl2 hl3
      have hsl := sumTo_le a b i
      have hsm : ofN (sumTo a b i) + ofN zk = ofN (sumTo a b (i + 1)) := by rw [hzk2]; simp only [sumTo, ofN]; omega
      cbv
      refine Chk.mk (ofN_in hi2) ?_
      cbv
      refine Chk.mk (hm) ?_
      cbv
      refine Chk.mk (hm0) ?_
      cbv
      refine Chk.mk (ix old) ?_
      cbv
      refine ⟨(⟨15, (old i).perm, (old i).pad⟩, ua), ⟨kO, ga⟩, Ent.of_wvs ?_, trivial, ?_⟩
      · cbv
        repeat' first | apply And.intro | exact trivial | exact SameI.mk (by with_reducible rfl) | exact SameN.mk (by with_reducible rfl) | exact SameL.mk (by with_reducible rfl) | exact SameB.mk (by with_reducible rfl) | exact LeN.mk (by with_reducible exact Nat.le_refl _) | apply SameI.mk | apply SameN.mk | apply SameL.mk | apply SameB.mk | apply LeN.mk
        · exact (r0 old).trans c3
        · exact r1 old
        · exact r2 old
        · exact ca
      cbv
      refine Chk.mk (ofN_in hi2) ?_
      cbv
      refine Chk.mk (ofN_in hi2) ?_
      cbv
      refine Chk.mk (ix old) ?_
      cbv
      refine Chk.mk (ix young) ?_
      cbv
      refine And.intro ?_ ?_
      all_goals
        refine ⟨(⟨15, (old i).perm, (old i).pad⟩, ⟨15, (young i).perm, (young i).pad⟩), ⟨kO, kY, rfl⟩, Ent.of_wvs ?_, trivial, ?_⟩
        · cbv
          repeat' first | apply And.intro | exact trivial | exact SameI.mk (by with_reducible rfl) | exact SameN.mk (by with_reducible rfl) | exact SameL.mk (by with_reducible rfl) | exact SameB.mk (by with_reducible rfl) | exact LeN.mk (by with_reducible exact Nat.le_refl _) | apply SameI.mk | apply SameN.mk | apply SameL.mk | apply SameB.mk | apply LeN.mk
          · exact (r0 old).trans c3
          · exact r1 old
          · exact r2 old
          · exact (r0 young).trans c4
          · exact r1 young
          · exact r2 young
        cbv
        refine ⟨(⟨15, rp, rq⟩, kh), ⟨rk2, ghid⟩, Ent.of_wvs ?_, trivial, ?_⟩
        · cbv
          repeat' first | apply And.intro | exact trivial | exact SameI.mk (by with_reducible rfl) | exact SameN.mk (by with_reducible rfl) | exact SameL.mk (by with_reducible rfl) | exact SameB.mk (by with_reducible rfl) | exact LeN.mk (by with_reducible exact Nat.le_refl _) | apply SameI.mk | apply SameN.mk | apply SameL.mk | apply SameB.mk | apply LeN.mk
          all_goals first | exact hrp.symm | exact hrq.symm | exact hkh.symm | rfl
        cbv
        refine Chk.mk (ofN_in hi2) ?_
        cbv
        refine Chk.mk (hm) ?_
        cbv
        refine Chk.mk (hm0) ?_
        cbv
        refine Chk.mk (ix young) ?_
        cbv
        refine ⟨(⟨15, (young i).perm, (young i).pad⟩, ub), ⟨kY, gb⟩, Ent.of_wvs ?_, trivial, ?_⟩
        · cbv
          repeat' first | apply And.intro | exact trivial | exact SameI.mk (by with_reducible rfl) | exact SameN.mk (by with_reducible rfl) | exact SameL.mk (by with_reducible rfl) | exact SameB.mk (by with_reducible rfl) | exact LeN.mk (by with_reducible exact Nat.le_refl _) | apply SameI.mk | apply SameN.mk | apply SameL.mk | apply SameB.mk | apply LeN.mk
          · exact (r0 young).trans c4
          · exact r1 young
          · exact r2 young
          · exact cb
        cbv
        refine ⟨⟨⟨dA, dB, dU, rc, rs, dT⟩, kr, ky, zk⟩, hls, Ent.of_wvs ?_, trivial, ?_⟩
        · cbv
          repeat' first | apply And.intro | exact trivial | exact SameI.mk (by with_reducible rfl) | exact SameN.mk (by with_reducible rfl) | exact SameL.mk (by with_reducible rfl) | exact SameB.mk (by with_reducible rfl) | exact LeN.mk (by with_reducible exact Nat.le_refl _) | apply SameI.mk | apply SameN.mk | apply SameL.mk | apply SameB.mk | apply LeN.mk
          all_goals first | exact hkr.symm | exact hky.symm | rfl
        cbv
        refine Br.f (fun c => ?_) (fun c => ?_)
        · cases c
        cbv
        refine Chk.mk (inR64 (by rw [aop_add, hsm]; have := sumTo_le a b (i + 1); simp only [ofN]; omega)) ?_
        cbv
        refine Chk.mk (inR64 (by rw [aop_add]; simp only [ofN]; omega)) ?_
        cbv
        refine .mk (hR (i + 1) _ hi2 (by omega) ?_)
        cbv
        repeat' first | apply And.intro | exact trivial | exact SameI.mk (by with_reducible rfl) | exact SameN.mk (by with_reducible rfl) | exact SameL.mk (by with_reducible rfl) | exact SameB.mk (by with_reducible rfl) | exact LeN.mk (by with_reducible exact Nat.le_refl _) | apply SameI.mk | apply SameN.mk | apply SameL.mk | apply SameB.mk | apply LeN.mk
        all_goals first | rfl | exact (ofN_succ _).symm | (simp only [toNat_ofN, NX.v, IX.v, Nat.le_refl]; done) | ((try simp only [toNat_ofN, NX.v, IX.v, nadd, nsub]); omega) | skip
        · exact aop_add.trans hsm
        · exact aop_add.trans (ofN_succ i).symm
    · have hi2 : i = 4 := by have : ¬ ofN i < 4 := lt_f.1 hc; simp only [ofN] at this; omega
      subst hi2
      cbv
      refine .mk ?_
      have ea : aop (.bits .and .u64) (ofN a) 1152921504606846975 = ofN (a &&& whole) := by rw [← ofN_whole, and64 ha whole_lt]
      have eb : aop (.bits .and .u64) (ofN b) 1152921504606846975 = ofN (b &&& whole) := by rw [← ofN_whole, and64 hb whole_lt]
      have hns := num_sum (a := a) (b := b)
      have la : a &&& whole ≤ whole := Nat.and_le_right
      have lb : b &&& whole ≤ whole := Nat.and_le_right
      generalize a &&& whole = am at ea hns la
      generalize b &&& whole = bm at eb hns lb
      cbv
      refine ⟨(am, bm), ⟨la, lb⟩, Ent.of_wvs ?_, trivial, ?_⟩
      · cbv
        repeat' first | apply And.intro | exact trivial | exact SameI.mk (by with_reducible rfl) | exact SameN.mk (by with_reducible rfl) | exact SameL.mk (by with_reducible rfl) | exact SameB.mk (by with_reducible rfl) | exact LeN.mk (by with_reducible exact Nat.le_refl _) | apply SameI.mk | apply SameN.mk | apply SameL.mk | apply SameB.mk | apply LeN.mk
        · exact ea
        · exact eb
      cbv
      refine Br.t (fun c => ?_) (fun c => ?_)
      rotate_left
      · cases c
      cbv
      refine Br.t (fun c => ?_) (fun c => ?_)
      rotate_left
      · exact eq_f.1 c hns
      cbv
      refine .mk _ _ h2 (.mk ?_) trivial
      exact eq_t.2 ones_whole
end Go.Proofs.Ytlgmbpnlakjefaa
