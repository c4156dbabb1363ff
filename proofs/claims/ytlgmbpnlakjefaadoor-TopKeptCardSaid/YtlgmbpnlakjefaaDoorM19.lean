/- Put together by a program of this work out of its texts KpG, KpH, KpI. -/
import Derived.Test.YtlgmbpnlakjefaaDoorM18
section
/- Contracts: recovering from sketches. -/
namespace Go.Proofs.YtlgmbpnlakjefaaDoor
open Go.Sy
set_option maxRecDepth 100000
set_option maxHeartbeats 2000000
set_option linter.unusedSimpArgs false
set_option linter.unusedVariables false
structure RecX where
  kd : Nat
  sk : List Nat
  sim : List Nat
/-- what is looked for at a place, what is found, and what recovers -/
def RecX.s (x : RecX) (i : Nat) : Nat := restL x.kd (x.sim.getD i 0) ^^^ x.sk.getD i 0
def RecX.e (x : RecX) (i : Nat) : Nat := optV (errN x.kd (x.s i))
def RecX.near (x : RecX) (i : Nat) : Bool := optB (errN x.kd (x.s i))
def RecX.out (x : RecX) (i : Nat) : Nat := x.sim.getD i 0 ^^^ x.e i
def RecX.sum (x : RecX) : Nat → Nat
  | 0 => 0
  | i + 1 => x.sum i + popN (x.e i) 16
theorem RecX.sum_le (x : RecX) : ∀ i, x.sum i ≤ 16 * i
  | 0 => Nat.le_refl _
  | i + 1 => by
    have h1 := x.sum_le i
    have h2 := popN_le (x.e i) 16
    simp only [RecX.sum]; omega
def RecX.ok (x : RecX) : Prop := Kind3 x.kd ∧ 1 ≤ x.sim.length ∧ x.sim.length ≤ 4 ∧ x.sk.length = x.sim.length ∧ Below x.sim 32768 ∧ Below x.sk (2 ^ fN x.kd)
def RecX.heap (x : RecX) : Heap := [some ⟨true, .rows [.int .u16] fun _ => nums x.sk⟩, some ⟨true, .rows [.int .u16] fun _ => nums x.sim⟩]
def cRecover : Con := con (fun x : RecX => [.int .u8 (.t fun _ => ofN x.kd), .sl 0 (.l 0) (.l 0) 1 (.t fun _ => x.sk.length) (.t fun _ => x.sk.length) false, .sl 1 (.l 0) (.l 0) 1 (.t fun _ => x.sim.length) (.t fun _ => x.sim.length) false]) RecX.heap RecX.ok
  (fun x K => ((∀ i, i < x.sim.length → x.near i = true) → K (.tuple [.sl 2 (.l 0) (.l 0) 1 (.t fun _ => x.sim.length) (.t fun _ => x.sim.length) false, .int .i64 (.t fun _ => ofN (x.sum x.sim.length)), .int .i64 (.l 0)]) [some ⟨true, .rows [.int .u16] fun _ => nums x.sk⟩, some ⟨true, .rows [.int .u16] fun _ => nums x.sim⟩, some ⟨true, .rows [.int .u16] fun _ => nums (listF x.sim.length x.out)⟩]) ∧
    ((∃ i, i < x.sim.length ∧ x.near i = false) → K (.tuple [.nils, .int .i64 (.l 0), .int .i64 (.l 51)]) x.heap))
theorem f15 : EnvOk Tryd.prog (env [(25, cKind), (26, cTemplate), (31, cAllB fun kd => 2 ^ fN kd), (27, cRest), (32, cError), (33, cOnes16)]) :=
  envOk_cons (envOk_cons (envOk_cons (envOk_cons (envOk_cons (envOk_cons envOk_nil s33 k33.callable) s32 k32.callable) s27 k27.callable) s31 k31.callable) s26 k26.callable) s25 k25.callable
attribute [local irreducible] restL errN codeN decN
theorem s15 : Sound Tryd.prog 15 cRecover := by
  refine k15.con tabOk f15 mixed o15 fun x K hx h2 => ?_
  obtain ⟨kd, sk, sim⟩ := x
  have hk : Kind3 kd := hx.1
  have hl1 : 1 ≤ sim.length := hx.2.1
  have hl : sim.length ≤ 4 := hx.2.2.1
  have hsk : sk.length = sim.length := hx.2.2.2.1
  have hb : Below sim 32768 := hx.2.2.2.2.1
  have hbs : Below sk (2 ^ fN kd) := hx.2.2.2.2.2
  have hsk10 : sk.length ≤ 1000 := by omega
  have hY : (∀ i, i < sim.length → RecX.near ⟨kd, sk, sim⟩ i = true) → K (.tuple [.sl 2 (.l 0) (.l 0) 1 (.t fun _ => sim.length) (.t fun _ => sim.length) false, .int .i64 (.t fun _ => ofN (RecX.sum ⟨kd, sk, sim⟩ sim.length)), .int .i64 (.l 0)]) [some ⟨true, .rows [.int .u16] fun _ => nums sk⟩, some ⟨true, .rows [.int .u16] fun _ => nums sim⟩, some ⟨true, .rows [.int .u16] fun _ => nums (listF sim.length (RecX.out ⟨kd, sk, sim⟩))⟩] := h2.1
  have hN : (∃ i, i < sim.length ∧ RecX.near ⟨kd, sk, sim⟩ i = false) → K (.tuple [.nils, .int .i64 (.l 0), .int .i64 (.l 51)]) (RecX.heap ⟨kd, sk, sim⟩) := h2.2
  have h2f := (two_kd hk).2.1
  cbv
  refine ⟨kd, hk, Ent.of_wvs ?_, trivial, ?_⟩
  · cbv
    repeat' first | apply And.intro | exact trivial | exact SameI.mk (by with_reducible rfl) | exact SameN.mk (by with_reducible rfl) | exact SameL.mk (by with_reducible rfl) | exact SameB.mk (by with_reducible rfl) | exact LeN.mk (by with_reducible exact Nat.le_refl _) | apply SameI.mk | apply SameN.mk | apply SameL.mk | apply SameB.mk | apply LeN.mk
    all_goals first | rfl | exact (ofN_succ _).symm | (simp only [toNat_ofN, NX.v, IX.v, Nat.le_refl]; done) | ((try simp only [toNat_ofN, NX.v, IX.v, nadd, nsub]); omega) | skip
  cbv
  refine ⟨⟨sim, true⟩, ⟨hl1, hl, hb⟩, Ent.of_wvs ?_, ?_, ?_⟩
  · cbv
    repeat' first | apply And.intro | exact trivial | exact SameI.mk (by with_reducible rfl) | exact SameN.mk (by with_reducible rfl) | exact SameL.mk (by with_reducible rfl) | exact SameB.mk (by with_reducible rfl) | exact LeN.mk (by with_reducible exact Nat.le_refl _) | apply SameI.mk | apply SameN.mk | apply SameL.mk | apply SameB.mk | apply LeN.mk
    all_goals first | rfl | exact (ofN_succ _).symm | (simp only [toNat_ofN, NX.v, IX.v, Nat.le_refl]; done) | ((try simp only [toNat_ofN, NX.v, IX.v, nadd, nsub]); omega) | skip
  · cbv
    repeat' first | apply And.intro | exact trivial | exact SameI.mk (by with_reducible rfl) | exact SameN.mk (by with_reducible rfl) | exact SameL.mk (by with_reducible rfl) | exact SameB.mk (by with_reducible rfl) | exact LeN.mk (by with_reducible exact Nat.le_refl _) | apply SameI.mk | apply SameN.mk | apply SameL.mk | apply SameB.mk | apply LeN.mk
    all_goals first | rfl | exact (ofN_succ _).symm | (simp only [toNat_ofN, NX.v, IX.v, Nat.le_refl]; done) | ((try simp only [toNat_ofN, NX.v, IX.v, nadd, nsub]); omega) | skip
  cbv
  refine Br.f (fun hc => ?_) (fun hc => ?_)
  · exact ne_t.1 hc (congrArg ofN hsk)
  cbv
  refine ⟨⟨sk, true, kd⟩, ⟨hk, hsk10, hbs⟩, Ent.of_wvs ?_, ?_, ?_⟩
  · cbv
    repeat' first | apply And.intro | exact trivial | exact SameI.mk (by with_reducible rfl) | exact SameN.mk (by with_reducible rfl) | exact SameL.mk (by with_reducible rfl) | exact SameB.mk (by with_reducible rfl) | exact LeN.mk (by with_reducible exact Nat.le_refl _) | apply SameI.mk | apply SameN.mk | apply SameL.mk | apply SameB.mk | apply LeN.mk
    all_goals first | rfl | exact (ofN_succ _).symm | (simp only [toNat_ofN, NX.v, IX.v, Nat.le_refl]; done) | ((try simp only [toNat_ofN, NX.v, IX.v, nadd, nsub]); omega) | skip
  · cbv
    repeat' first | apply And.intro | exact trivial | exact SameI.mk (by with_reducible rfl) | exact SameN.mk (by with_reducible rfl) | exact SameL.mk (by with_reducible rfl) | exact SameB.mk (by with_reducible rfl) | exact LeN.mk (by with_reducible exact Nat.le_refl _) | apply SameI.mk | apply SameN.mk | apply SameL.mk | apply SameB.mk | apply LeN.mk
    all_goals first | rfl | exact (ofN_succ _).symm | (simp only [toNat_ofN, NX.v, IX.v, Nat.le_refl]; done) | ((try simp only [toNat_ofN, NX.v, IX.v, nadd, nsub]); omega) | skip
  cbv
  refine loop_invN [.slot 11 [.int .u16]] [1, 9, 11, 12, 42, 43, 44] (fun (i : Nat) => i ≤ sim.length ∧ ∀ j, j < i → RecX.near ⟨kd, sk, sim⟩ j = true)
    (fun i => ⟨[.undef, .sl 0 (.l 0) (.l 0) 1 (.t fun _ => sk.length) (.t fun _ => sk.length) false, .undef, .undef, .undef, .undef, .undef, .undef, .undef, .ptr 2 (.l 0) (.l 0), .undef, .sl 3 (.l 0) (.l 0) 1 (.t fun _ => i) (.t fun _ => i) false, .int .i64 (.t fun _ => ofN (RecX.sum ⟨kd, sk, sim⟩ i)), .undef, .undef, .undef, .undef, .undef, .undef, .undef, .undef, .undef, .undef, .undef, .undef, .undef, .undef, .undef, .undef, .undef, .undef, .undef, .undef, .undef, .undef, .undef, .undef, .undef, .undef, .undef, .undef, .undef, .sl 1 (.l 0) (.l 0) 1 (.t fun _ => sim.length) (.t fun _ => sim.length) false, .int .i64 (.t fun _ => ofN sim.length), .int .i64 (.t fun _ => ofN i), .undef, .undef, .undef, .undef, .undef, .undef, .undef, .undef, .undef, .undef, .undef, .undef, .undef, .undef, .undef, .undef, .undef, .undef, .undef, .undef, .undef, .undef, .undef, .undef, .undef, .undef, .undef, .undef, .undef, .undef, .undef, .undef], [some ⟨true, .rows [.int .u16] fun _ => nums sk⟩, some ⟨true, .rows [.int .u16] fun _ => nums sim⟩, some ⟨true, .cells (codeC kd)⟩, some ⟨true, .rows [.int .u16] fun _ => nums (listF i (RecX.out ⟨kd, sk, sim⟩))⟩]⟩) (fun i => sim.length - i) 0 ⟨Nat.zero_le _, fun j h => absurd h (Nat.not_lt_zero j)⟩ ?_ ?_
  · cbv
    repeat' first | apply And.intro | exact trivial | exact SameI.mk (by with_reducible rfl) | exact SameN.mk (by with_reducible rfl) | exact SameL.mk (by with_reducible rfl) | exact SameB.mk (by with_reducible rfl) | exact LeN.mk (by with_reducible exact Nat.le_refl _) | apply SameI.mk | apply SameN.mk | apply SameL.mk | apply SameB.mk | apply LeN.mk
    all_goals first | rfl | exact (ofN_succ _).symm | (simp only [toNat_ofN, NX.v, IX.v, Nat.le_refl]; done) | ((try simp only [toNat_ofN, NX.v, IX.v, nadd, nsub]); omega) | skip
  · intro i R ⟨hi, hj⟩ hR
    have i0 := ofN_nonneg i
    cbv
    refine Br.mk (fun hc => ?_) (fun hc => ?_)
    · have hi2 := lt_len hc
      have hi3 : i < sk.length := by omega
      have hv := hb i hi2
      have hvs := hbs i hi3
      have e0 := at1_nums sim i
      have e1 := at1_nums sk i
      have hrl := rest15 hk (sim.getD i 0)
      obtain ⟨w, hw⟩ : ∃ w, w = sim.getD i 0 := ⟨_, rfl⟩
      obtain ⟨t, ht⟩ : ∃ t, t = sk.getD i 0 := ⟨_, rfl⟩
      obtain ⟨rl, hrle⟩ : ∃ rl, rl = restL kd w := ⟨_, rfl⟩
      have hw15 : w < 32768 := by rw [hw]; exact hv
      have ht15 : t < 32768 := by rw [ht]; omega
      have hrl15 : rl < 32768 := by rw [hrle]; exact rest15 hk w
      obtain ⟨sv, hsv⟩ : ∃ sv, sv = rl ^^^ t := ⟨_, rfl⟩
      have hsv15 : sv < 32768 := by rw [hsv]; exact Nat.xor_lt_two_pow (n := 15) hrl15 ht15
      have e2 : aop (.bits .xor .u16) (ofN rl) (ofN t) = ofN sv := by rw [hsv]; exact xor16 (by omega) (by omega)
      have es : RecX.s ⟨kd, sk, sim⟩ i = sv := by rw [hsv, hrle, hw, ht]; rfl
      rw [← hw] at e0
      rw [← ht] at e1
      obtain ⟨oe, hoe⟩ : ∃ oe, oe = errN kd sv := ⟨_, rfl⟩
      have een : RecX.near ⟨kd, sk, sim⟩ i = optB oe := by rw [hoe, ← es]; rfl
      have eee : RecX.e ⟨kd, sk, sim⟩ i = optV oe := by rw [hoe, ← es]; rfl
      have hov : optV oe < 32768 := by rw [hoe]; exact optV_lt
      have eo : RecX.out ⟨kd, sk, sim⟩ i = w ^^^ optV oe := by rw [← eee, hw]; rfl
      have e3 : aop (.bits .xor .u16) (ofN w) (ofN (optV oe)) = ofN (w ^^^ optV oe) := xor16 (by omega) (by omega)
      have hsl := RecX.sum_le ⟨kd, sk, sim⟩ i
      have hp16 := popN_le (optV oe) 16
      have esum : ofN (RecX.sum ⟨kd, sk, sim⟩ i) + ofN (popN (optV oe) 16) = ofN (RecX.sum ⟨kd, sk, sim⟩ (i + 1)) := by simp only [RecX.sum, eee, ofN]; omega
      have hov16 : optV oe < 65536 := by omega
      cbv
      refine Chk.mk (idx1 hi2) ?_
      cbv
      refine Chk.mk (idxN hi2) ?_
      cbv
      refine Chk.mk (idx1 hi3) ?_
      cbv
      refine Chk.mk (idxN hi3) ?_
      cbv
      refine ⟨(kd, w), ⟨hk, hw15⟩, Ent.of_wvs ?_, trivial, ?_⟩
      · cbv
        repeat' first | apply And.intro | exact trivial | exact SameI.mk (by with_reducible rfl) | exact SameN.mk (by with_reducible rfl) | exact SameL.mk (by with_reducible rfl) | exact SameB.mk (by with_reducible rfl) | exact LeN.mk (by with_reducible exact Nat.le_refl _) | apply SameI.mk | apply SameN.mk | apply SameL.mk | apply SameB.mk | apply LeN.mk
        all_goals first | rfl | exact (ofN_succ _).symm | (simp only [toNat_ofN, NX.v, IX.v, Nat.le_refl]; done) | ((try simp only [toNat_ofN, NX.v, IX.v, nadd, nsub]); omega) | skip
        all_goals exact e0
      cbv
      refine ⟨(kd, sv), ⟨hk, hsv15⟩, Ent.of_wvs ?_, trivial, ?_⟩
      · cbv
        repeat' first | apply And.intro | exact trivial | exact SameI.mk (by with_reducible rfl) | exact SameN.mk (by with_reducible rfl) | exact SameL.mk (by with_reducible rfl) | exact SameB.mk (by with_reducible rfl) | exact LeN.mk (by with_reducible exact Nat.le_refl _) | apply SameI.mk | apply SameN.mk | apply SameL.mk | apply SameB.mk | apply LeN.mk
        all_goals first | rfl | exact (ofN_succ _).symm | (simp only [toNat_ofN, NX.v, IX.v, Nat.le_refl]; done) | ((try simp only [toNat_ofN, NX.v, IX.v, nadd, nsub]); omega) | skip
        all_goals (show aop (.bits .xor .u16) (ofN (restL kd w)) (at1 (nums sk) (ofN i).toNat) = ofN sv; rw [e1, ← hrle, e2])
      cbv
      refine Br.mk (fun hc2 => ?_) (fun hc2 => ?_)
      · have hb2 : optB oe = false := by have : bnot (optB (errN kd sv)) = true := hc2; rw [← hoe] at this; cases h : optB oe; rfl; rw [h] at this; cases this
        have h2 := hN ⟨i, hi2, by rw [een]; exact hb2⟩
        cbv
        refine .mk ?_
        cbv
        refine .mk _ _ h2 ?_ ?_
        all_goals cbv
        all_goals repeat' first | apply And.intro | exact trivial | exact SameI.mk (by with_reducible rfl) | exact SameN.mk (by with_reducible rfl) | exact SameL.mk (by with_reducible rfl) | exact SameB.mk (by with_reducible rfl) | exact LeN.mk (by with_reducible exact Nat.le_refl _) | apply SameI.mk | apply SameN.mk | apply SameL.mk | apply SameB.mk | apply LeN.mk
        all_goals first | rfl | exact (ofN_succ _).symm | (simp only [toNat_ofN, NX.v, IX.v, Nat.le_refl]; done) | ((try simp only [toNat_ofN, NX.v, IX.v, nadd, nsub]); omega) | skip
      · have hb2 : optB oe = true := by have : bnot (optB (errN kd sv)) = false := hc2; rw [← hoe] at this; cases h : optB oe; rw [h] at this; cases this; rfl
        cbv
        refine Chk.mk (Nat.le_refl _) ?_
        cbv
        refine Chk.mk (by (try simp only [NX.v, IX.v, nadd, nsub, nmul, aop_add, aop_sub, aop_mul, toNat_ofN, ints_length, List.length_append, List.length_take, List.length_drop, List.length_replicate, List.length_cons, List.length_nil, List.length_map, maxBytes, nums_length, listF_length]); (try simp only [ofN]); omega) ?_
        cbv
        refine Chk.mk (by (try simp only [NX.v, IX.v, nadd, nsub, nmul, aop_add, aop_sub, aop_mul, toNat_ofN, ints_length, List.length_append, List.length_take, List.length_drop, List.length_replicate, List.length_cons, List.length_nil, List.length_map, maxBytes]); (try simp only [ofN]); omega) ?_
        cbv
        refine App.either rfl ?_
        cbv
        refine ⟨optV oe, hov16, Ent.of_wvs ?_, trivial, ?_⟩
        · cbv
          repeat' first | apply And.intro | exact trivial | exact SameI.mk (by with_reducible rfl) | exact SameN.mk (by with_reducible rfl) | exact SameL.mk (by with_reducible rfl) | exact SameB.mk (by with_reducible rfl) | exact LeN.mk (by with_reducible exact Nat.le_refl _) | apply SameI.mk | apply SameN.mk | apply SameL.mk | apply SameB.mk | apply LeN.mk
          all_goals first | rfl | exact (ofN_succ _).symm | (simp only [toNat_ofN, NX.v, IX.v, Nat.le_refl]; done) | ((try simp only [toNat_ofN, NX.v, IX.v, nadd, nsub]); omega) | skip
          all_goals (show ofN (optV (errN kd sv)) = ofN (optV oe); rw [hoe])
        cbv
        refine Chk.mk (inR64 (by rw [aop_add, esum]; have := RecX.sum_le ⟨kd, sk, sim⟩ (i + 1); simp only [ofN]; omega)) ?_
        cbv
        refine Chk.mk (inc64 hi2 (by omega)) ?_
        cbv
        refine .mk (hR (i + 1) _ ⟨hi2, fun j h => by rcases Nat.lt_or_ge j i with h6 | h6; exact hj j h6; rw [show j = i by omega, een]; exact hb2⟩ (by omega) ?_)
        cbv
        repeat' first | apply And.intro | exact trivial | exact SameI.mk (by with_reducible rfl) | exact SameN.mk (by with_reducible rfl) | exact SameL.mk (by with_reducible rfl) | exact SameB.mk (by with_reducible rfl) | exact LeN.mk (by with_reducible exact Nat.le_refl _) | apply SameI.mk | apply SameN.mk | apply SameL.mk | apply SameB.mk | apply LeN.mk
        all_goals first | rfl | exact (ofN_succ _).symm | (simp only [toNat_ofN, NX.v, IX.v, Nat.le_refl]; done) | ((try simp only [toNat_ofN, NX.v, IX.v, nadd, nsub]); omega) | skip
        · exact aop_add.trans esum
        · show ((nums (listF i (RecX.out ⟨kd, sk, sim⟩))).drop 0).take i ++ [[D.i (aop (.bits .xor .u16) (at1 (nums sim) (ofN i).toNat) (ofN (optV (errN kd sv))))]] = nums (listF (i + 1) (RecX.out ⟨kd, sk, sim⟩))
          rw [e0, ← hoe, e3, ← eo]
          exact grow_nums _ i
    · obtain rfl := ge_len hc hi
      have h2 := hY hj
      cbv
      refine .mk ?_
      cbv
      refine .mk _ _ h2 ?_ ?_
      all_goals cbv
      all_goals repeat' first | apply And.intro | exact trivial | exact SameI.mk (by with_reducible rfl) | exact SameN.mk (by with_reducible rfl) | exact SameL.mk (by with_reducible rfl) | exact SameB.mk (by with_reducible rfl) | exact LeN.mk (by with_reducible exact Nat.le_refl _) | apply SameI.mk | apply SameN.mk | apply SameL.mk | apply SameB.mk | apply LeN.mk
      all_goals first | rfl | exact (ofN_succ _).symm | (simp only [toNat_ofN, NX.v, IX.v, Nat.le_refl]; done) | ((try simp only [toNat_ofN, NX.v, IX.v, nadd, nsub]); omega) | skip
end Go.Proofs.YtlgmbpnlakjefaaDoor
end

section
/- Contracts: commitments, and what opens them. -/
namespace Go.Proofs.YtlgmbpnlakjefaaDoor
open Go.Sy
set_option maxRecDepth 100000
set_option maxHeartbeats 2000000
set_option linter.unusedSimpArgs false
set_option linter.unusedVariables false
structure ComX where
  kd : Nat
  l : List Nat
  m : List Nat
  mt : Bool
def ComX.f (x : ComX) (i : Nat) : Nat := x.l.getD i 0 ^^^ codeN x.kd (x.m.getD i 0)
def ComX.ok (x : ComX) : Prop := Kind3 x.kd ∧ 1 ≤ x.l.length ∧ x.l.length ≤ 4 ∧ x.m.length = x.l.length ∧ Below x.l 32768 ∧ Below x.m (2 ^ kdN x.kd)
def ComX.heap (x : ComX) : Heap := [some ⟨true, .rows [.int .u16] fun _ => nums x.l⟩, some ⟨x.mt, .rows [.int .u16] fun _ => nums x.m⟩]
def cCommit : Con := con (fun x : ComX => [.int .u8 (.t fun _ => ofN x.kd), .sl 0 (.l 0) (.l 0) 1 (.t fun _ => x.l.length) (.t fun _ => x.l.length) false, .sl 1 (.l 0) (.l 0) 1 (.t fun _ => x.m.length) (.t fun _ => x.m.length) false]) ComX.heap ComX.ok
  (fun x K => K (.tuple [.agg [.int .u8 (.t fun _ => ofN x.kd), .sl 2 (.l 0) (.l 0) 1 (.t fun _ => x.l.length) (.t fun _ => x.l.length) false, .int .u32 (.t fun _ => tagTo x.m x.m.length)], .int .i64 (.l 0)]) [some ⟨true, .rows [.int .u16] fun _ => nums x.l⟩, some ⟨x.mt, .rows [.int .u16] fun _ => nums x.m⟩, some ⟨true, .rows [.int .u16] fun _ => nums (listF x.l.length x.f)⟩])
theorem f16 : EnvOk Tryd.prog (env [(25, cKind), (26, cTemplate), (28, cAllB fun kd => 2 ^ kdN kd), (29, cTag), (30, cEncode)]) :=
  envOk_cons (envOk_cons (envOk_cons (envOk_cons (envOk_cons envOk_nil s30 k30.callable) s29 k29.callable) s28 k28.callable) s26 k26.callable) s25 k25.callable
theorem code15 {kd m : Nat} (hk : Kind3 kd) (hm : m < 2 ^ kdN kd) : codeN kd m < 32768 := by
  have g3 := (gN_bits hk).2.2
  have h1 : m * 2 ^ fN kd < 2 ^ 15 := by
    have : m * 2 ^ fN kd < 2 ^ kdN kd * 2 ^ fN kd := Nat.mul_lt_mul_of_pos_right hm (Nat.two_pow_pos _)
    rwa [← Nat.pow_add, show kdN kd + fN kd = 15 by omega] at this
  exact Nat.or_lt_two_pow h1 (rest15 hk _)
attribute [local irreducible] restL errN codeN decN tagTo
theorem s14 : Sound Tryd.prog 14 cCommit := by
  refine k14.con tabOk f16 mixed o14 fun x K hx h2 => ?_
  obtain ⟨kd, l, m, mt⟩ := x
  have hk : Kind3 kd := hx.1
  have hl1 : 1 ≤ l.length := hx.2.1
  have hl : l.length ≤ 4 := hx.2.2.1
  have hml : m.length = l.length := hx.2.2.2.1
  have hb : Below l 32768 := hx.2.2.2.2.1
  have hbm : Below m (2 ^ kdN kd) := hx.2.2.2.2.2
  have hm10 : m.length ≤ 1000 := by omega
  have h2k := (two_kd hk).1
  have hbm16 : Below m 65536 := fun i hi => Nat.lt_trans (hbm i hi) (by omega)
  cases mt
  · cbv
    refine ⟨kd, hk, Ent.of_wvs ?_, trivial, ?_⟩
    · cbv
      repeat' first | apply And.intro | exact trivial | exact SameI.mk (by with_reducible rfl) | exact SameN.mk (by with_reducible rfl) | exact SameL.mk (by with_reducible rfl) | exact SameB.mk (by with_reducible rfl) | exact LeN.mk (by with_reducible exact Nat.le_refl _) | apply SameI.mk | apply SameN.mk | apply SameL.mk | apply SameB.mk | apply LeN.mk
      all_goals first | rfl | exact (ofN_succ _).symm | (simp only [toNat_ofN, NX.v, IX.v, Nat.le_refl]; done) | ((try simp only [toNat_ofN, NX.v, IX.v, nadd, nsub]); omega) | skip
    cbv
    refine ⟨⟨l, true⟩, ⟨hl1, hl, hb⟩, Ent.of_wvs ?_, ?_, ?_⟩
    · cbv
      repeat' first | apply And.intro | exact trivial | exact SameI.mk (by with_reducible rfl) | exact SameN.mk (by with_reducible rfl) | exact SameL.mk (by with_reducible rfl) | exact SameB.mk (by with_reducible rfl) | exact LeN.mk (by with_reducible exact Nat.le_refl _) | apply SameI.mk | apply SameN.mk | apply SameL.mk | apply SameB.mk | apply LeN.mk
      all_goals first | rfl | exact (ofN_succ _).symm | (simp only [toNat_ofN, NX.v, IX.v, Nat.le_refl]; done) | ((try simp only [toNat_ofN, NX.v, IX.v, nadd, nsub]); omega) | skip
    · cbv
      repeat' first | apply And.intro | exact trivial | exact SameI.mk (by with_reducible rfl) | exact SameN.mk (by with_reducible rfl) | exact SameL.mk (by with_reducible rfl) | exact SameB.mk (by with_reducible rfl) | exact LeN.mk (by with_reducible exact Nat.le_refl _) | apply SameI.mk | apply SameN.mk | apply SameL.mk | apply SameB.mk | apply LeN.mk
      all_goals first | rfl | exact (ofN_succ _).symm | (simp only [toNat_ofN, NX.v, IX.v, Nat.le_refl]; done) | ((try simp only [toNat_ofN, NX.v, IX.v, nadd, nsub]); omega) | skip
    cbv
    refine Br.f (fun hc => ?_) (fun hc => ?_)
    · exact ne_t.1 hc (congrArg ofN hml)
    cbv
    refine ⟨⟨m, false, kd⟩, ⟨hk, hm10, hbm⟩, Ent.of_wvs ?_, ?_, ?_⟩
    · cbv
      repeat' first | apply And.intro | exact trivial | exact SameI.mk (by with_reducible rfl) | exact SameN.mk (by with_reducible rfl) | exact SameL.mk (by with_reducible rfl) | exact SameB.mk (by with_reducible rfl) | exact LeN.mk (by with_reducible exact Nat.le_refl _) | apply SameI.mk | apply SameN.mk | apply SameL.mk | apply SameB.mk | apply LeN.mk
      all_goals first | rfl | exact (ofN_succ _).symm | (simp only [toNat_ofN, NX.v, IX.v, Nat.le_refl]; done) | ((try simp only [toNat_ofN, NX.v, IX.v, nadd, nsub]); omega) | skip
    · cbv
      repeat' first | apply And.intro | exact trivial | exact SameI.mk (by with_reducible rfl) | exact SameN.mk (by with_reducible rfl) | exact SameL.mk (by with_reducible rfl) | exact SameB.mk (by with_reducible rfl) | exact LeN.mk (by with_reducible exact Nat.le_refl _) | apply SameI.mk | apply SameN.mk | apply SameL.mk | apply SameB.mk | apply LeN.mk
      all_goals first | rfl | exact (ofN_succ _).symm | (simp only [toNat_ofN, NX.v, IX.v, Nat.le_refl]; done) | ((try simp only [toNat_ofN, NX.v, IX.v, nadd, nsub]); omega) | skip
    cbv
    refine ⟨⟨m, false⟩, ⟨hm10, hbm16⟩, Ent.of_wvs ?_, ?_, ?_⟩
    · cbv
      repeat' first | apply And.intro | exact trivial | exact SameI.mk (by with_reducible rfl) | exact SameN.mk (by with_reducible rfl) | exact SameL.mk (by with_reducible rfl) | exact SameB.mk (by with_reducible rfl) | exact LeN.mk (by with_reducible exact Nat.le_refl _) | apply SameI.mk | apply SameN.mk | apply SameL.mk | apply SameB.mk | apply LeN.mk
      all_goals first | rfl | exact (ofN_succ _).symm | (simp only [toNat_ofN, NX.v, IX.v, Nat.le_refl]; done) | ((try simp only [toNat_ofN, NX.v, IX.v, nadd, nsub]); omega) | skip
    · cbv
      repeat' first | apply And.intro | exact trivial | exact SameI.mk (by with_reducible rfl) | exact SameN.mk (by with_reducible rfl) | exact SameL.mk (by with_reducible rfl) | exact SameB.mk (by with_reducible rfl) | exact LeN.mk (by with_reducible exact Nat.le_refl _) | apply SameI.mk | apply SameN.mk | apply SameL.mk | apply SameB.mk | apply LeN.mk
      all_goals first | rfl | exact (ofN_succ _).symm | (simp only [toNat_ofN, NX.v, IX.v, Nat.le_refl]; done) | ((try simp only [toNat_ofN, NX.v, IX.v, nadd, nsub]); omega) | skip
    cbv
    refine loop_invN [.cell 4 1 [.int .u16]] [2, 6, 8, 10, 43, 44, 45] (fun (i : Nat) => i ≤ l.length)
      (fun i => ⟨[.undef, .undef, .sl 1 (.l 0) (.l 0) 1 (.t fun _ => m.length) (.t fun _ => m.length) false, .undef, .undef, .undef, .ptr 2 (.l 0) (.l 0), .undef, .ptr 3 (.l 0) (.l 0), .undef, .ptr 4 (.l 0) (.l 0), .undef, .undef, .undef, .undef, .undef, .undef, .undef, .undef, .undef, .undef, .undef, .undef, .undef, .undef, .undef, .undef, .undef, .undef, .undef, .undef, .undef, .undef, .undef, .undef, .undef, .undef, .undef, .undef, .undef, .undef, .undef, .undef, .sl 0 (.l 0) (.l 0) 1 (.t fun _ => l.length) (.t fun _ => l.length) false, .int .i64 (.t fun _ => ofN l.length), .int .i64 (.t fun _ => ofN i), .undef, .undef, .undef, .undef, .undef, .undef, .undef, .undef, .undef, .undef, .undef, .undef, .undef, .undef, .undef, .undef, .undef, .undef, .undef], [some ⟨true, .rows [.int .u16] fun _ => nums l⟩, some ⟨false, .rows [.int .u16] fun _ => nums m⟩, some ⟨true, .cells [.int .u8 (.l 0), .nils, .int .u32 (.l 0)]⟩, some ⟨true, .cells (codeC kd)⟩, some ⟨true, .cells [.int .u8 (.t fun _ => ofN kd), .sl 5 (.l 0) (.l 0) 1 (.t fun _ => i) (.t fun _ => i) false, .int .u32 (.t fun _ => tagTo m m.length)]⟩, some ⟨true, .rows [.int .u16] fun _ => nums (listF i (ComX.f ⟨kd, l, m, false⟩))⟩]⟩) (fun i => l.length - i) 0 (Nat.zero_le _) ?_ ?_
    · cbv
      repeat' first | apply And.intro | exact trivial | exact SameI.mk (by with_reducible rfl) | exact SameN.mk (by with_reducible rfl) | exact SameL.mk (by with_reducible rfl) | exact SameB.mk (by with_reducible rfl) | exact LeN.mk (by with_reducible exact Nat.le_refl _) | apply SameI.mk | apply SameN.mk | apply SameL.mk | apply SameB.mk | apply LeN.mk
      all_goals first | rfl | exact (ofN_succ _).symm | (simp only [toNat_ofN, NX.v, IX.v, Nat.le_refl]; done) | ((try simp only [toNat_ofN, NX.v, IX.v, nadd, nsub]); omega) | skip
    · intro i R hi hR
      have i0 := ofN_nonneg i
      cbv
      refine Br.mk (fun hc => ?_) (fun hc => ?_)
      · have hi2 := lt_len hc
        have hi3 : i < m.length := by omega
        have hv := hb i hi2
        have hvm := hbm i hi3
        have e0 := at1_nums l i
        have e1 := at1_nums m i
        obtain ⟨w, hw⟩ : ∃ w, w = l.getD i 0 := ⟨_, rfl⟩
        obtain ⟨t, ht⟩ : ∃ t, t = m.getD i 0 := ⟨_, rfl⟩
        have hw15 : w < 32768 := by rw [hw]; exact hv
        have htk : t < 2 ^ kdN kd := by rw [ht]; exact hvm
        have hc15 := code15 hk htk
        have e2 : aop (.bits .xor .u16) (ofN w) (ofN (codeN kd t)) = ofN (w ^^^ codeN kd t) := xor16 (by omega) (by omega)
        have eo : ComX.f ⟨kd, l, m, false⟩ i = w ^^^ codeN kd t := by rw [hw, ht]; rfl
        rw [← hw] at e0
        rw [← ht] at e1
        cbv
        refine Chk.mk (idx1 hi2) ?_
        cbv
        refine Chk.mk (idxN hi2) ?_
        cbv
        refine Chk.mk (idx1 hi3) ?_
        cbv
        refine Chk.mk (idxN hi3) ?_
        cbv
        refine ⟨(kd, t), ⟨hk, htk⟩, Ent.of_wvs ?_, trivial, ?_⟩
        · cbv
          repeat' first | apply And.intro | exact trivial | exact SameI.mk (by with_reducible rfl) | exact SameN.mk (by with_reducible rfl) | exact SameL.mk (by with_reducible rfl) | exact SameB.mk (by with_reducible rfl) | exact LeN.mk (by with_reducible exact Nat.le_refl _) | apply SameI.mk | apply SameN.mk | apply SameL.mk | apply SameB.mk | apply LeN.mk
          all_goals first | rfl | exact (ofN_succ _).symm | (simp only [toNat_ofN, NX.v, IX.v, Nat.le_refl]; done) | ((try simp only [toNat_ofN, NX.v, IX.v, nadd, nsub]); omega) | skip
          all_goals exact e1
        cbv
        refine Chk.mk (Nat.le_refl _) ?_
        cbv
        refine Chk.mk (by (try simp only [NX.v, IX.v, nadd, nsub, nmul, aop_add, aop_sub, aop_mul, toNat_ofN, ints_length, List.length_append, List.length_take, List.length_drop, List.length_replicate, List.length_cons, List.length_nil, List.length_map, maxBytes, nums_length, listF_length]); (try simp only [ofN]); omega) ?_
        cbv
        refine Chk.mk (by (try simp only [NX.v, IX.v, nadd, nsub, nmul, aop_add, aop_sub, aop_mul, toNat_ofN, ints_length, List.length_append, List.length_take, List.length_drop, List.length_replicate, List.length_cons, List.length_nil, List.length_map, maxBytes]); (try simp only [ofN]); omega) ?_
        cbv
        refine App.either rfl ?_
        cbv
        refine Chk.mk (inc64 hi2 (by omega)) ?_
        cbv
        refine .mk (hR (i + 1) _ hi2 (by omega) ?_)
        cbv
        repeat' first | apply And.intro | exact trivial | exact SameI.mk (by with_reducible rfl) | exact SameN.mk (by with_reducible rfl) | exact SameL.mk (by with_reducible rfl) | exact SameB.mk (by with_reducible rfl) | exact LeN.mk (by with_reducible exact Nat.le_refl _) | apply SameI.mk | apply SameN.mk | apply SameL.mk | apply SameB.mk | apply LeN.mk
        all_goals first | rfl | exact (ofN_succ _).symm | (simp only [toNat_ofN, NX.v, IX.v, Nat.le_refl]; done) | ((try simp only [toNat_ofN, NX.v, IX.v, nadd, nsub]); omega) | skip
        · show ((nums (listF i (ComX.f ⟨kd, l, m, false⟩))).drop 0).take i ++ [[D.i (aop (.bits .xor .u16) (at1 (nums l) (ofN i).toNat) (ofN (codeN kd t)))]] = nums (listF (i + 1) (ComX.f ⟨kd, l, m, false⟩))
          rw [e0, e2, ← eo]
          exact grow_nums _ i
      · obtain rfl := ge_len hc hi
        cbv
        refine .mk ?_
        cbv
        refine .mk _ _ h2 ?_ ?_
        all_goals cbv
        all_goals repeat' first | apply And.intro | exact trivial | exact SameI.mk (by with_reducible rfl) | exact SameN.mk (by with_reducible rfl) | exact SameL.mk (by with_reducible rfl) | exact SameB.mk (by with_reducible rfl) | exact LeN.mk (by with_reducible exact Nat.le_refl _) | apply SameI.mk | apply SameN.mk | apply SameL.mk | apply SameB.mk | apply LeN.mk
        all_goals first | rfl | exact (ofN_succ _).symm | (simp only [toNat_ofN, NX.v, IX.v, Nat.le_refl]; done) | ((try simp only [toNat_ofN, NX.v, IX.v, nadd, nsub]); omega) | skip
  · cbv
    refine ⟨kd, hk, Ent.of_wvs ?_, trivial, ?_⟩
    · cbv
      repeat' first | apply And.intro | exact trivial | exact SameI.mk (by with_reducible rfl) | exact SameN.mk (by with_reducible rfl) | exact SameL.mk (by with_reducible rfl) | exact SameB.mk (by with_reducible rfl) | exact LeN.mk (by with_reducible exact Nat.le_refl _) | apply SameI.mk | apply SameN.mk | apply SameL.mk | apply SameB.mk | apply LeN.mk
      all_goals first | rfl | exact (ofN_succ _).symm | (simp only [toNat_ofN, NX.v, IX.v, Nat.le_refl]; done) | ((try simp only [toNat_ofN, NX.v, IX.v, nadd, nsub]); omega) | skip
    cbv
    refine ⟨⟨l, true⟩, ⟨hl1, hl, hb⟩, Ent.of_wvs ?_, ?_, ?_⟩
    · cbv
      repeat' first | apply And.intro | exact trivial | exact SameI.mk (by with_reducible rfl) | exact SameN.mk (by with_reducible rfl) | exact SameL.mk (by with_reducible rfl) | exact SameB.mk (by with_reducible rfl) | exact LeN.mk (by with_reducible exact Nat.le_refl _) | apply SameI.mk | apply SameN.mk | apply SameL.mk | apply SameB.mk | apply LeN.mk
      all_goals first | rfl | exact (ofN_succ _).symm | (simp only [toNat_ofN, NX.v, IX.v, Nat.le_refl]; done) | ((try simp only [toNat_ofN, NX.v, IX.v, nadd, nsub]); omega) | skip
    · cbv
      repeat' first | apply And.intro | exact trivial | exact SameI.mk (by with_reducible rfl) | exact SameN.mk (by with_reducible rfl) | exact SameL.mk (by with_reducible rfl) | exact SameB.mk (by with_reducible rfl) | exact LeN.mk (by with_reducible exact Nat.le_refl _) | apply SameI.mk | apply SameN.mk | apply SameL.mk | apply SameB.mk | apply LeN.mk
      all_goals first | rfl | exact (ofN_succ _).symm | (simp only [toNat_ofN, NX.v, IX.v, Nat.le_refl]; done) | ((try simp only [toNat_ofN, NX.v, IX.v, nadd, nsub]); omega) | skip
    cbv
    refine Br.f (fun hc => ?_) (fun hc => ?_)
    · exact ne_t.1 hc (congrArg ofN hml)
    cbv
    refine ⟨⟨m, true, kd⟩, ⟨hk, hm10, hbm⟩, Ent.of_wvs ?_, ?_, ?_⟩
    · cbv
      repeat' first | apply And.intro | exact trivial | exact SameI.mk (by with_reducible rfl) | exact SameN.mk (by with_reducible rfl) | exact SameL.mk (by with_reducible rfl) | exact SameB.mk (by with_reducible rfl) | exact LeN.mk (by with_reducible exact Nat.le_refl _) | apply SameI.mk | apply SameN.mk | apply SameL.mk | apply SameB.mk | apply LeN.mk
      all_goals first | rfl | exact (ofN_succ _).symm | (simp only [toNat_ofN, NX.v, IX.v, Nat.le_refl]; done) | ((try simp only [toNat_ofN, NX.v, IX.v, nadd, nsub]); omega) | skip
    · cbv
      repeat' first | apply And.intro | exact trivial | exact SameI.mk (by with_reducible rfl) | exact SameN.mk (by with_reducible rfl) | exact SameL.mk (by with_reducible rfl) | exact SameB.mk (by with_reducible rfl) | exact LeN.mk (by with_reducible exact Nat.le_refl _) | apply SameI.mk | apply SameN.mk | apply SameL.mk | apply SameB.mk | apply LeN.mk
      all_goals first | rfl | exact (ofN_succ _).symm | (simp only [toNat_ofN, NX.v, IX.v, Nat.le_refl]; done) | ((try simp only [toNat_ofN, NX.v, IX.v, nadd, nsub]); omega) | skip
    cbv
    refine ⟨⟨m, true⟩, ⟨hm10, hbm16⟩, Ent.of_wvs ?_, ?_, ?_⟩
    · cbv
      repeat' first | apply And.intro | exact trivial | exact SameI.mk (by with_reducible rfl) | exact SameN.mk (by with_reducible rfl) | exact SameL.mk (by with_reducible rfl) | exact SameB.mk (by with_reducible rfl) | exact LeN.mk (by with_reducible exact Nat.le_refl _) | apply SameI.mk | apply SameN.mk | apply SameL.mk | apply SameB.mk | apply LeN.mk
      all_goals first | rfl | exact (ofN_succ _).symm | (simp only [toNat_ofN, NX.v, IX.v, Nat.le_refl]; done) | ((try simp only [toNat_ofN, NX.v, IX.v, nadd, nsub]); omega) | skip
    · cbv
      repeat' first | apply And.intro | exact trivial | exact SameI.mk (by with_reducible rfl) | exact SameN.mk (by with_reducible rfl) | exact SameL.mk (by with_reducible rfl) | exact SameB.mk (by with_reducible rfl) | exact LeN.mk (by with_reducible exact Nat.le_refl _) | apply SameI.mk | apply SameN.mk | apply SameL.mk | apply SameB.mk | apply LeN.mk
      all_goals first | rfl | exact (ofN_succ _).symm | (simp only [toNat_ofN, NX.v, IX.v, Nat.le_refl]; done) | ((try simp only [toNat_ofN, NX.v, IX.v, nadd, nsub]); omega) | skip
    cbv
    refine loop_invN [.cell 4 1 [.int .u16]] [2, 6, 8, 10, 43, 44, 45] (fun (i : Nat) => i ≤ l.length)
      (fun i => ⟨[.undef, .undef, .sl 1 (.l 0) (.l 0) 1 (.t fun _ => m.length) (.t fun _ => m.length) false, .undef, .undef, .undef, .ptr 2 (.l 0) (.l 0), .undef, .ptr 3 (.l 0) (.l 0), .undef, .ptr 4 (.l 0) (.l 0), .undef, .undef, .undef, .undef, .undef, .undef, .undef, .undef, .undef, .undef, .undef, .undef, .undef, .undef, .undef, .undef, .undef, .undef, .undef, .undef, .undef, .undef, .undef, .undef, .undef, .undef, .undef, .undef, .undef, .undef, .undef, .undef, .sl 0 (.l 0) (.l 0) 1 (.t fun _ => l.length) (.t fun _ => l.length) false, .int .i64 (.t fun _ => ofN l.length), .int .i64 (.t fun _ => ofN i), .undef, .undef, .undef, .undef, .undef, .undef, .undef, .undef, .undef, .undef, .undef, .undef, .undef, .undef, .undef, .undef, .undef, .undef, .undef], [some ⟨true, .rows [.int .u16] fun _ => nums l⟩, some ⟨true, .rows [.int .u16] fun _ => nums m⟩, some ⟨true, .cells [.int .u8 (.l 0), .nils, .int .u32 (.l 0)]⟩, some ⟨true, .cells (codeC kd)⟩, some ⟨true, .cells [.int .u8 (.t fun _ => ofN kd), .sl 5 (.l 0) (.l 0) 1 (.t fun _ => i) (.t fun _ => i) false, .int .u32 (.t fun _ => tagTo m m.length)]⟩, some ⟨true, .rows [.int .u16] fun _ => nums (listF i (ComX.f ⟨kd, l, m, true⟩))⟩]⟩) (fun i => l.length - i) 0 (Nat.zero_le _) ?_ ?_
    · cbv
      repeat' first | apply And.intro | exact trivial | exact SameI.mk (by with_reducible rfl) | exact SameN.mk (by with_reducible rfl) | exact SameL.mk (by with_reducible rfl) | exact SameB.mk (by with_reducible rfl) | exact LeN.mk (by with_reducible exact Nat.le_refl _) | apply SameI.mk | apply SameN.mk | apply SameL.mk | apply SameB.mk | apply LeN.mk
      all_goals first | rfl | exact (ofN_succ _).symm | (simp only [toNat_ofN, NX.v, IX.v, Nat.le_refl]; done) | ((try simp only [toNat_ofN, NX.v, IX.v, nadd, nsub]); omega) | skip
    · intro i R hi hR
      have i0 := ofN_nonneg i
      cbv
      refine Br.mk (fun hc => ?_) (fun hc => ?_)
      · have hi2 := lt_len hc
        have hi3 : i < m.length := by omega
        have hv := hb i hi2
        have hvm := hbm i hi3
        have e0 := at1_nums l i
        have e1 := at1_nums m i
        obtain ⟨w, hw⟩ : ∃ w, w = l.getD i 0 := ⟨_, rfl⟩
        obtain ⟨t, ht⟩ : ∃ t, t = m.getD i 0 := ⟨_, rfl⟩
        have hw15 : w < 32768 := by rw [hw]; exact hv
        have htk : t < 2 ^ kdN kd := by rw [ht]; exact hvm
        have hc15 := code15 hk htk
        have e2 : aop (.bits .xor .u16) (ofN w) (ofN (codeN kd t)) = ofN (w ^^^ codeN kd t) := xor16 (by omega) (by omega)
        have eo : ComX.f ⟨kd, l, m, true⟩ i = w ^^^ codeN kd t := by rw [hw, ht]; rfl
        rw [← hw] at e0
        rw [← ht] at e1
        cbv
        refine Chk.mk (idx1 hi2) ?_
        cbv
        refine Chk.mk (idxN hi2) ?_
        cbv
        refine Chk.mk (idx1 hi3) ?_
        cbv
        refine Chk.mk (idxN hi3) ?_
        cbv
        refine ⟨(kd, t), ⟨hk, htk⟩, Ent.of_wvs ?_, trivial, ?_⟩
        · cbv
          repeat' first | apply And.intro | exact trivial | exact SameI.mk (by with_reducible rfl) | exact SameN.mk (by with_reducible rfl) | exact SameL.mk (by with_reducible rfl) | exact SameB.mk (by with_reducible rfl) | exact LeN.mk (by with_reducible exact Nat.le_refl _) | apply SameI.mk | apply SameN.mk | apply SameL.mk | apply SameB.mk | apply LeN.mk
          all_goals first | rfl | exact (ofN_succ _).symm | (simp only [toNat_ofN, NX.v, IX.v, Nat.le_refl]; done) | ((try simp only [toNat_ofN, NX.v, IX.v, nadd, nsub]); omega) | skip
          all_goals exact e1
        cbv
        refine Chk.mk (Nat.le_refl _) ?_
        cbv
        refine Chk.mk (by (try simp only [NX.v, IX.v, nadd, nsub, nmul, aop_add, aop_sub, aop_mul, toNat_ofN, ints_length, List.length_append, List.length_take, List.length_drop, List.length_replicate, List.length_cons, List.length_nil, List.length_map, maxBytes, nums_length, listF_length]); (try simp only [ofN]); omega) ?_
        cbv
        refine Chk.mk (by (try simp only [NX.v, IX.v, nadd, nsub, nmul, aop_add, aop_sub, aop_mul, toNat_ofN, ints_length, List.length_append, List.length_take, List.length_drop, List.length_replicate, List.length_cons, List.length_nil, List.length_map, maxBytes]); (try simp only [ofN]); omega) ?_
        cbv
        refine App.either rfl ?_
        cbv
        refine Chk.mk (inc64 hi2 (by omega)) ?_
        cbv
        refine .mk (hR (i + 1) _ hi2 (by omega) ?_)
        cbv
        repeat' first | apply And.intro | exact trivial | exact SameI.mk (by with_reducible rfl) | exact SameN.mk (by with_reducible rfl) | exact SameL.mk (by with_reducible rfl) | exact SameB.mk (by with_reducible rfl) | exact LeN.mk (by with_reducible exact Nat.le_refl _) | apply SameI.mk | apply SameN.mk | apply SameL.mk | apply SameB.mk | apply LeN.mk
        all_goals first | rfl | exact (ofN_succ _).symm | (simp only [toNat_ofN, NX.v, IX.v, Nat.le_refl]; done) | ((try simp only [toNat_ofN, NX.v, IX.v, nadd, nsub]); omega) | skip
        · show ((nums (listF i (ComX.f ⟨kd, l, m, true⟩))).drop 0).take i ++ [[D.i (aop (.bits .xor .u16) (at1 (nums l) (ofN i).toNat) (ofN (codeN kd t)))]] = nums (listF (i + 1) (ComX.f ⟨kd, l, m, true⟩))
          rw [e0, e2, ← eo]
          exact grow_nums _ i
      · obtain rfl := ge_len hc hi
        cbv
        refine .mk ?_
        cbv
        refine .mk _ _ h2 ?_ ?_
        all_goals cbv
        all_goals repeat' first | apply And.intro | exact trivial | exact SameI.mk (by with_reducible rfl) | exact SameN.mk (by with_reducible rfl) | exact SameL.mk (by with_reducible rfl) | exact SameB.mk (by with_reducible rfl) | exact LeN.mk (by with_reducible exact Nat.le_refl _) | apply SameI.mk | apply SameN.mk | apply SameL.mk | apply SameB.mk | apply LeN.mk
        all_goals first | rfl | exact (ofN_succ _).symm | (simp only [toNat_ofN, NX.v, IX.v, Nat.le_refl]; done) | ((try simp only [toNat_ofN, NX.v, IX.v, nadd, nsub]); omega) | skip
end Go.Proofs.YtlgmbpnlakjefaaDoor
end

section
/- Contracts: opening a commitment. -/
namespace Go.Proofs.YtlgmbpnlakjefaaDoor
open Go.Sy
set_option maxRecDepth 100000
set_option maxHeartbeats 2000000
set_option linter.unusedSimpArgs false
set_option linter.unusedVariables false
structure OpX where
  kd : Nat
  help : List Nat
  tag : Int
  sim : List Nat
def OpX.w (x : OpX) (i : Nat) : Nat := x.sim.getD i 0 ^^^ x.help.getD i 0
def OpX.near (x : OpX) (i : Nat) : Bool := optB (errN x.kd (restL x.kd (x.w i)))
def OpX.out (x : OpX) (i : Nat) : Nat := decN x.kd (x.w i)
def OpX.outL (x : OpX) : List Nat := listF x.sim.length x.out
def OpX.ok (x : OpX) : Prop := Kind3 x.kd ∧ 1 ≤ x.sim.length ∧ x.sim.length ≤ 4 ∧ x.help.length = x.sim.length ∧ Below x.sim 32768 ∧ Below x.help 32768
def OpX.heap (x : OpX) : Heap := [some ⟨true, .rows [.int .u16] fun _ => nums x.help⟩, some ⟨true, .rows [.int .u16] fun _ => nums x.sim⟩]
def OpX.opens (x : OpX) : Prop := (∀ i, i < x.sim.length → x.near i = true) ∧ tagTo x.outL x.sim.length = x.tag
def cOpen : Con := con (fun x : OpX => [.agg [.int .u8 (.t fun _ => ofN x.kd), .sl 0 (.l 0) (.l 0) 1 (.t fun _ => x.help.length) (.t fun _ => x.help.length) false, .int .u32 (.t fun _ => x.tag)], .sl 1 (.l 0) (.l 0) 1 (.t fun _ => x.sim.length) (.t fun _ => x.sim.length) false]) OpX.heap OpX.ok
  (fun x K => (x.opens → K (.tuple [.sl 2 (.l 0) (.l 0) 1 (.t fun _ => x.sim.length) (.t fun _ => x.sim.length) false, .int .i64 (.l 0)]) [some ⟨true, .rows [.int .u16] fun _ => nums x.help⟩, some ⟨true, .rows [.int .u16] fun _ => nums x.sim⟩, some ⟨true, .rows [.int .u16] fun _ => nums x.outL⟩]) ∧
    (¬ x.opens → K (.tuple [.nils, .int .i64 (.l 51)]) x.heap))
theorem f17 : EnvOk Tryd.prog (env [(25, cKind), (26, cTemplate), (34, cDecode), (29, cTag)]) :=
  envOk_cons (envOk_cons (envOk_cons (envOk_cons envOk_nil s29 k29.callable) s34 k34.callable) s26 k26.callable) s25 k25.callable
theorem dec_lt {kd w : Nat} (hw : w < 32768) : decN kd w < 32768 := by
  unfold decN
  exact Nat.lt_of_le_of_lt (Nat.div_le_self _ _) (Nat.xor_lt_two_pow (n := 15) hw optV_lt)
attribute [local irreducible] restL errN codeN decN tagTo
theorem s16 : Sound Tryd.prog 16 cOpen := by
  refine k16.con tabOk f17 mixed o16 fun x K hx h2 => ?_
  obtain ⟨kd, help, tag, sim⟩ := x
  have hk : Kind3 kd := hx.1
  have hl1 : 1 ≤ sim.length := hx.2.1
  have hl : sim.length ≤ 4 := hx.2.2.1
  have hsk : help.length = sim.length := hx.2.2.2.1
  have hb : Below sim 32768 := hx.2.2.2.2.1
  have hbs : Below help 32768 := hx.2.2.2.2.2
  have hh1 : 1 ≤ help.length := by omega
  have hh4 : help.length ≤ 4 := by omega
  have hY : OpX.opens ⟨kd, help, tag, sim⟩ → K (.tuple [.sl 2 (.l 0) (.l 0) 1 (.t fun _ => sim.length) (.t fun _ => sim.length) false, .int .i64 (.l 0)]) [some ⟨true, .rows [.int .u16] fun _ => nums help⟩, some ⟨true, .rows [.int .u16] fun _ => nums sim⟩, some ⟨true, .rows [.int .u16] fun _ => nums (listF sim.length (OpX.out ⟨kd, help, tag, sim⟩))⟩] := h2.1
  have hN : ¬ OpX.opens ⟨kd, help, tag, sim⟩ → K (.tuple [.nils, .int .i64 (.l 51)]) (OpX.heap ⟨kd, help, tag, sim⟩) := h2.2
  cbv
  refine ⟨kd, hk, Ent.of_wvs ?_, trivial, ?_⟩
  · cbv
    repeat' first | apply And.intro | exact trivial | exact SameI.mk (by with_reducible rfl) | exact SameN.mk (by with_reducible rfl) | exact SameL.mk (by with_reducible rfl) | exact SameB.mk (by with_reducible rfl) | exact LeN.mk (by with_reducible exact Nat.le_refl _) | apply SameI.mk | apply SameN.mk | apply SameL.mk | apply SameB.mk | apply LeN.mk
    all_goals first | rfl | exact (ofN_succ _).symm | (simp only [toNat_ofN, NX.v, IX.v, Nat.le_refl]; done) | ((try simp only [toNat_ofN, NX.v, IX.v, nadd, nsub]); omega) | skip
  cbv
  refine ⟨⟨help, true⟩, ⟨hh1, hh4, hbs⟩, Ent.of_wvs ?_, ?_, ?_⟩
  · cbv
    repeat' first | apply And.intro | exact trivial | exact SameI.mk (by with_reducible rfl) | exact SameN.mk (by with_reducible rfl) | exact SameL.mk (by with_reducible rfl) | exact SameB.mk (by with_reducible rfl) | exact LeN.mk (by with_reducible exact Nat.le_refl _) | apply SameI.mk | apply SameN.mk | apply SameL.mk | apply SameB.mk | apply LeN.mk
    all_goals first | rfl | exact (ofN_succ _).symm | (simp only [toNat_ofN, NX.v, IX.v, Nat.le_refl]; done) | ((try simp only [toNat_ofN, NX.v, IX.v, nadd, nsub]); omega) | skip
  · cbv
    repeat' first | apply And.intro | exact trivial | exact SameI.mk (by with_reducible rfl) | exact SameN.mk (by with_reducible rfl) | exact SameL.mk (by with_reducible rfl) | exact SameB.mk (by with_reducible rfl) | exact LeN.mk (by with_reducible exact Nat.le_refl _) | apply SameI.mk | apply SameN.mk | apply SameL.mk | apply SameB.mk | apply LeN.mk
    all_goals first | rfl | exact (ofN_succ _).symm | (simp only [toNat_ofN, NX.v, IX.v, Nat.le_refl]; done) | ((try simp only [toNat_ofN, NX.v, IX.v, nadd, nsub]); omega) | skip
  cbv
  refine ⟨⟨sim, true⟩, ⟨hl1, hl, hb⟩, Ent.of_wvs ?_, ?_, ?_⟩
  · cbv
    repeat' first | apply And.intro | exact trivial | exact SameI.mk (by with_reducible rfl) | exact SameN.mk (by with_reducible rfl) | exact SameL.mk (by with_reducible rfl) | exact SameB.mk (by with_reducible rfl) | exact LeN.mk (by with_reducible exact Nat.le_refl _) | apply SameI.mk | apply SameN.mk | apply SameL.mk | apply SameB.mk | apply LeN.mk
    all_goals first | rfl | exact (ofN_succ _).symm | (simp only [toNat_ofN, NX.v, IX.v, Nat.le_refl]; done) | ((try simp only [toNat_ofN, NX.v, IX.v, nadd, nsub]); omega) | skip
  · cbv
    repeat' first | apply And.intro | exact trivial | exact SameI.mk (by with_reducible rfl) | exact SameN.mk (by with_reducible rfl) | exact SameL.mk (by with_reducible rfl) | exact SameB.mk (by with_reducible rfl) | exact LeN.mk (by with_reducible exact Nat.le_refl _) | apply SameI.mk | apply SameN.mk | apply SameL.mk | apply SameB.mk | apply LeN.mk
    all_goals first | rfl | exact (ofN_succ _).symm | (simp only [toNat_ofN, NX.v, IX.v, Nat.le_refl]; done) | ((try simp only [toNat_ofN, NX.v, IX.v, nadd, nsub]); omega) | skip
  cbv
  refine Br.f (fun hc => ?_) (fun hc => ?_)
  · exact ne_t.1 hc (congrArg ofN hsk.symm)
  cbv
  refine loop_invN [.slot 8 [.int .u16]] [2, 6, 8, 41, 42, 43] (fun (i : Nat) => i ≤ sim.length ∧ ∀ j, j < i → OpX.near ⟨kd, help, tag, sim⟩ j = true)
    (fun i => ⟨[.undef, .undef, .ptr 2 (.l 0) (.l 0), .undef, .undef, .undef, .ptr 3 (.l 0) (.l 0), .undef, .sl 4 (.l 0) (.l 0) 1 (.t fun _ => i) (.t fun _ => i) false, .undef, .undef, .undef, .undef, .undef, .undef, .undef, .undef, .undef, .undef, .undef, .undef, .undef, .undef, .undef, .undef, .undef, .undef, .undef, .undef, .undef, .undef, .undef, .undef, .undef, .undef, .undef, .undef, .undef, .undef, .undef, .undef, .sl 1 (.l 0) (.l 0) 1 (.t fun _ => sim.length) (.t fun _ => sim.length) false, .int .i64 (.t fun _ => ofN sim.length), .int .i64 (.t fun _ => ofN i), .undef, .undef, .undef, .undef, .undef, .undef, .undef, .undef, .undef, .undef, .undef, .undef, .undef, .undef, .undef, .undef, .undef, .undef, .undef, .undef, .undef, .undef, .undef, .undef, .undef, .undef, .undef, .undef, .undef, .undef], [some ⟨true, .rows [.int .u16] fun _ => nums help⟩, some ⟨true, .rows [.int .u16] fun _ => nums sim⟩, some ⟨true, .cells [.int .u8 (.t fun _ => ofN kd), .sl 0 (.l 0) (.l 0) 1 (.t fun _ => help.length) (.t fun _ => help.length) false, .int .u32 (.t fun _ => tag)]⟩, some ⟨true, .cells (codeC kd)⟩, some ⟨true, .rows [.int .u16] fun _ => nums (listF i (OpX.out ⟨kd, help, tag, sim⟩))⟩]⟩) (fun i => sim.length - i) 0 ⟨Nat.zero_le _, fun j h => absurd h (Nat.not_lt_zero j)⟩ ?_ ?_
  · cbv
    repeat' first | apply And.intro | exact trivial | exact SameI.mk (by with_reducible rfl) | exact SameN.mk (by with_reducible rfl) | exact SameL.mk (by with_reducible rfl) | exact SameB.mk (by with_reducible rfl) | exact LeN.mk (by with_reducible exact Nat.le_refl _) | apply SameI.mk | apply SameN.mk | apply SameL.mk | apply SameB.mk | apply LeN.mk
    all_goals first | rfl | exact (ofN_succ _).symm | (simp only [toNat_ofN, NX.v, IX.v, Nat.le_refl]; done) | ((try simp only [toNat_ofN, NX.v, IX.v, nadd, nsub]); omega) | skip
  · intro i R ⟨hi, hj⟩ hR
    have i0 := ofN_nonneg i
    cbv
    refine Br.mk (fun hc => ?_) (fun hc => ?_)
    · have hi2 := lt_len hc
      have hi3 : i < help.length := by omega
      have hv := hb i hi2
      have hvs := hbs i hi3
      have e0 := at1_nums sim i
      have e1 := at1_nums help i
      obtain ⟨w, hw⟩ : ∃ w, w = OpX.w ⟨kd, help, tag, sim⟩ i := ⟨_, rfl⟩
      have hw15 : w < 32768 := by rw [hw]; exact Nat.xor_lt_two_pow (n := 15) hv hvs
      have e2 : aop (.bits .xor .u16) (ofN (sim.getD i 0)) (ofN (help.getD i 0)) = ofN w := by rw [hw]; exact xor16 (by omega) (by omega)
      have een : OpX.near ⟨kd, help, tag, sim⟩ i = optB (errN kd (restL kd w)) := by rw [hw]; rfl
      have eo : OpX.out ⟨kd, help, tag, sim⟩ i = decN kd w := by rw [hw]; rfl
      cbv
      refine Chk.mk (idx1 hi2) ?_
      cbv
      refine Chk.mk (idxN hi2) ?_
      cbv
      refine Chk.mk (idx1 hi3) ?_
      cbv
      refine Chk.mk (idxN hi3) ?_
      cbv
      refine ⟨(kd, w), ⟨hk, hw15⟩, Ent.of_wvs ?_, trivial, ?_⟩
      · cbv
        repeat' first | apply And.intro | exact trivial | exact SameI.mk (by with_reducible rfl) | exact SameN.mk (by with_reducible rfl) | exact SameL.mk (by with_reducible rfl) | exact SameB.mk (by with_reducible rfl) | exact LeN.mk (by with_reducible exact Nat.le_refl _) | apply SameI.mk | apply SameN.mk | apply SameL.mk | apply SameB.mk | apply LeN.mk
        all_goals first | rfl | exact (ofN_succ _).symm | (simp only [toNat_ofN, NX.v, IX.v, Nat.le_refl]; done) | ((try simp only [toNat_ofN, NX.v, IX.v, nadd, nsub]); omega) | skip
        all_goals (show aop (.bits .xor .u16) (at1 (nums sim) (ofN i).toNat) (at1 (nums help) (ofN i).toNat) = ofN w; rw [e0, e1, e2])
      cbv
      refine Br.mk (fun hc2 => ?_) (fun hc2 => ?_)
      · have hb2 : OpX.near ⟨kd, help, tag, sim⟩ i = false := by rw [een]; have : bnot (optB (errN kd (restL kd w))) = true := hc2; cases h : optB (errN kd (restL kd w)); rfl; rw [h] at this; cases this
        have h2 := hN fun h => by have := h.1 i hi2; rw [hb2] at this; cases this
        cbv
        refine .mk ?_
        cbv
        refine .mk _ _ h2 ?_ ?_
        all_goals cbv
        all_goals repeat' first | apply And.intro | exact trivial | exact SameI.mk (by with_reducible rfl) | exact SameN.mk (by with_reducible rfl) | exact SameL.mk (by with_reducible rfl) | exact SameB.mk (by with_reducible rfl) | exact LeN.mk (by with_reducible exact Nat.le_refl _) | apply SameI.mk | apply SameN.mk | apply SameL.mk | apply SameB.mk | apply LeN.mk
        all_goals first | rfl | exact (ofN_succ _).symm | (simp only [toNat_ofN, NX.v, IX.v, Nat.le_refl]; done) | ((try simp only [toNat_ofN, NX.v, IX.v, nadd, nsub]); omega) | skip
      · have hb2 : OpX.near ⟨kd, help, tag, sim⟩ i = true := by rw [een]; have : bnot (optB (errN kd (restL kd w))) = false := hc2; cases h : optB (errN kd (restL kd w)); rw [h] at this; cases this; rfl
        cbv
        refine Chk.mk (Nat.le_refl _) ?_
        cbv
        refine Chk.mk (by (try simp only [NX.v, IX.v, nadd, nsub, nmul, aop_add, aop_sub, aop_mul, toNat_ofN, ints_length, List.length_append, List.length_take, List.length_drop, List.length_replicate, List.length_cons, List.length_nil, List.length_map, maxBytes, nums_length, listF_length]); (try simp only [ofN]); omega) ?_
        cbv
        refine Chk.mk (by (try simp only [NX.v, IX.v, nadd, nsub, nmul, aop_add, aop_sub, aop_mul, toNat_ofN, ints_length, List.length_append, List.length_take, List.length_drop, List.length_replicate, List.length_cons, List.length_nil, List.length_map, maxBytes]); (try simp only [ofN]); omega) ?_
        cbv
        refine App.either rfl ?_
        cbv
        refine Chk.mk (inc64 hi2 (by omega)) ?_
        cbv
        refine .mk (hR (i + 1) _ ⟨hi2, fun j h => by rcases Nat.lt_or_ge j i with h6 | h6; exact hj j h6; rw [show j = i by omega]; exact hb2⟩ (by omega) ?_)
        cbv
        repeat' first | apply And.intro | exact trivial | exact SameI.mk (by with_reducible rfl) | exact SameN.mk (by with_reducible rfl) | exact SameL.mk (by with_reducible rfl) | exact SameB.mk (by with_reducible rfl) | exact LeN.mk (by with_reducible exact Nat.le_refl _) | apply SameI.mk | apply SameN.mk | apply SameL.mk | apply SameB.mk | apply LeN.mk
        all_goals first | rfl | exact (ofN_succ _).symm | (simp only [toNat_ofN, NX.v, IX.v, Nat.le_refl]; done) | ((try simp only [toNat_ofN, NX.v, IX.v, nadd, nsub]); omega) | skip
        · show ((nums (listF i (OpX.out ⟨kd, help, tag, sim⟩))).drop 0).take i ++ [[D.i (ofN (decN kd w))]] = nums (listF (i + 1) (OpX.out ⟨kd, help, tag, sim⟩))
          rw [← eo]
          exact grow_nums _ i
    · obtain rfl := ge_len hc hi
      obtain ⟨L, hL⟩ : ∃ L, L = listF sim.length (OpX.out ⟨kd, help, tag, sim⟩) := ⟨_, rfl⟩
      have hLl : L.length = sim.length := by rw [hL, listF_length]
      have hL10 : L.length ≤ 1000 := by omega
      have hLb : Below L 65536 := fun i hi => by
        rw [hL, listF_get (by omega)]
        exact Nat.lt_trans (dec_lt (Nat.xor_lt_two_pow (n := 15) (hb i (by omega)) (hbs i (by omega)))) (by decide)
      rw [← hL] at hY
      have hop : OpX.opens ⟨kd, help, tag, sim⟩ ↔ tagTo L L.length = tag := by
        unfold OpX.opens OpX.outL
        rw [← hL, hLl]
        exact ⟨fun h => h.2, fun h => ⟨hj, h⟩⟩
      cbv
      refine .mk ?_
      cbv
      rw [← hL]
      refine ⟨⟨L, true⟩, ⟨hL10, hLb⟩, Ent.of_wvs ?_, ?_, ?_⟩
      · cbv
        repeat' first | apply And.intro | exact trivial | exact SameI.mk (by with_reducible rfl) | exact SameN.mk (by with_reducible rfl) | exact SameL.mk (by with_reducible rfl) | exact SameB.mk (by with_reducible rfl) | exact LeN.mk (by with_reducible exact Nat.le_refl _) | apply SameI.mk | apply SameN.mk | apply SameL.mk | apply SameB.mk | apply LeN.mk
        all_goals first | rfl | exact (ofN_succ _).symm | (simp only [toNat_ofN, NX.v, IX.v, Nat.le_refl]; done) | ((try simp only [toNat_ofN, NX.v, IX.v, nadd, nsub]); omega) | skip
      · cbv
        repeat' first | apply And.intro | exact trivial | exact SameI.mk (by with_reducible rfl) | exact SameN.mk (by with_reducible rfl) | exact SameL.mk (by with_reducible rfl) | exact SameB.mk (by with_reducible rfl) | exact LeN.mk (by with_reducible exact Nat.le_refl _) | apply SameI.mk | apply SameN.mk | apply SameL.mk | apply SameB.mk | apply LeN.mk
        all_goals first | rfl | exact (ofN_succ _).symm | (simp only [toNat_ofN, NX.v, IX.v, Nat.le_refl]; done) | ((try simp only [toNat_ofN, NX.v, IX.v, nadd, nsub]); omega) | skip
      cbv
      refine Br.mk (fun hc2 => ?_) (fun hc2 => ?_)
      · have h2 := hN fun h => ne_t.1 hc2 (hop.1 h)
        cbv
        refine .mk _ _ h2 ?_ ?_
        all_goals cbv
        all_goals repeat' first | apply And.intro | exact trivial | exact SameI.mk (by with_reducible rfl) | exact SameN.mk (by with_reducible rfl) | exact SameL.mk (by with_reducible rfl) | exact SameB.mk (by with_reducible rfl) | exact LeN.mk (by with_reducible exact Nat.le_refl _) | apply SameI.mk | apply SameN.mk | apply SameL.mk | apply SameB.mk | apply LeN.mk
        all_goals first | rfl | exact (ofN_succ _).symm | (simp only [toNat_ofN, NX.v, IX.v, Nat.le_refl]; done) | ((try simp only [toNat_ofN, NX.v, IX.v, nadd, nsub]); omega) | skip
      · have h2 := hY (hop.2 (ne_f.1 hc2))
        cbv
        refine .mk _ _ h2 ?_ ?_
        all_goals cbv
        all_goals repeat' first | apply And.intro | exact trivial | exact SameI.mk (by with_reducible rfl) | exact SameN.mk (by with_reducible rfl) | exact SameL.mk (by with_reducible rfl) | exact SameB.mk (by with_reducible rfl) | exact LeN.mk (by with_reducible exact Nat.le_refl _) | apply SameI.mk | apply SameN.mk | apply SameL.mk | apply SameB.mk | apply LeN.mk
        all_goals first | rfl | exact (ofN_succ _).symm | (simp only [toNat_ofN, NX.v, IX.v, Nat.le_refl]; done) | ((try simp only [toNat_ofN, NX.v, IX.v, nadd, nsub]); omega) | skip
end Go.Proofs.YtlgmbpnlakjefaaDoor
end
