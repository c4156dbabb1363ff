/- Contracts: the order of a key. -/
import Derived.Test.YtlgmbpnlakjefaaBl11
namespace Go.Proofs.Ytlgmbpnlakjefaa
open Go.Sy
set_option maxRecDepth 100000
set_option maxHeartbeats 1000000
set_option linter.unusedSimpArgs false
set_option linter.unusedVariables false
def orderL : Nat → List Nat → Nat → List Nat
  | 0, _, _ => []
  | k + 1, left, p => left.getD (p / fact k) 0 :: orderL k (left.eraseIdx (p / fact k)) (p % fact k)
theorem orderL_length : ∀ (k : Nat) (left : List Nat) (p : Nat), (orderL k left p).length = k
  | 0, _, _ => rfl
  | k + 1, left, p => by simp [orderL, orderL_length k]
def nats (l : List Nat) : List Int := l.map ofN
theorem nats_length (l : List Nat) : (nats l).length = l.length := by simp [nats]
theorem nats_erase : ∀ (l : List Nat) (a : Nat), (nats l).eraseIdx a = nats (l.eraseIdx a)
  | [], _ => rfl
  | _ :: _, 0 => rfl
  | x :: l, a + 1 => congrArg (ofN x :: ·) (nats_erase l a)
def ordI (n : Nat) (p : Int) : List Int := nats (orderL n (List.range n) p.toNat)
structure OrdX where
  j : Nat
  left : List Nat
  junk : List Int
  p : Nat
  out : List Nat
def veil (n : Nat) (perm pad : Int) : List AV := [.int .i64 (.t fun _ => ofN n), .int .i64 (.t fun _ => perm), .int .u16 (.t fun _ => pad)]
def cOrder : Con := con (fun x : Nat × Int × Int => [.agg (veil x.1 x.2.1 x.2.2)]) (fun _ => []) (fun x => 1 ≤ x.1 ∧ x.1 ≤ 15 ∧ 0 ≤ x.2.1 ∧ x.2.1.toNat < fact x.1)
  (fun x K => K (.sl 0 (.l 0) (.l 0) 1 (.t fun _ => x.1) (.t fun _ => x.1) false) [some ⟨true, .rows [.int .i64] fun _ => ints (ordI x.1 x.2.1)⟩])
theorem e10 : EnvOk Try.prog (env [(101, cFact), (102, cDelete)]) := envOk_cons (envOk_cons envOk_nil s102 k102.callable) s101 k101.callable
theorem s68 : Sound Try.prog 68 cOrder := by
  refine k68.con tabOk e10 mixed o68 fun x K hl h2 => ?_
  obtain ⟨n, perm, pad⟩ := x
  obtain ⟨hn1, hn2, hp0, hp1⟩ := hl
  dsimp only at hn1 hn2 hp0 hp1 h2 ⊢
  cbv
  refine loop_inv [1, 3, 4, 10, 11] (fun (i : Nat) => i ≤ n) (fun i => match i with
    | 0 => ⟨[.undef, .ptr 0 (.l 0) (.l 0), .undef, .nils, .nils, .undef, .undef, .undef, .undef, .undef, .int .i64 (.t fun _ => ofN n), .int .i64 (.t fun _ => ofN 0), .undef, .undef, .undef, .undef, .undef, .undef, .undef, .undef, .undef, .undef, .undef, .undef, .undef, .undef, .undef, .undef, .undef, .undef, .undef, .undef, .undef, .undef, .undef, .undef, .undef, .undef, .undef, .undef, .undef, .undef, .undef, .undef, .undef, .undef, .undef, .undef, .undef], [some ⟨true, .cells [.int .i64 (.t fun _ => ofN n), .int .i64 (.t fun _ => perm), .int .u16 (.t fun _ => pad)]⟩]⟩
    | j + 1 => ⟨[.undef, .ptr 0 (.l 0) (.l 0), .undef, .sl 1 (.l 0) (.l 0) 1 (.t fun _ => j + 1) (.t fun _ => j + 1) false, .nils, .undef, .undef, .undef, .undef, .undef, .int .i64 (.t fun _ => ofN n), .int .i64 (.t fun _ => ofN (j + 1)), .undef, .undef, .undef, .undef, .undef, .undef, .undef, .undef, .undef, .undef, .undef, .undef, .undef, .undef, .undef, .undef, .undef, .undef, .undef, .undef, .undef, .undef, .undef, .undef, .undef, .undef, .undef, .undef, .undef, .undef, .undef, .undef, .undef, .undef, .undef, .undef, .undef], [some ⟨true, .cells [.int .i64 (.t fun _ => ofN n), .int .i64 (.t fun _ => perm), .int .u16 (.t fun _ => pad)]⟩, some ⟨true, .rows [.int .i64] fun _ => ints (nats (List.range (j + 1)))⟩]⟩) (fun i => n - i) 0 (Nat.zero_le _) ?_ ?_
  · cbv
    repeat' first | apply And.intro | exact trivial | exact SameI.mk (by with_reducible rfl) | exact SameN.mk (by with_reducible rfl) | exact SameL.mk (by with_reducible rfl) | exact SameB.mk (by with_reducible rfl) | exact LeN.mk (by with_reducible exact Nat.le_refl _) | apply SameI.mk | apply SameN.mk | apply SameL.mk | apply SameB.mk | apply LeN.mk
    all_goals first | rfl | exact (ofN_succ _).symm | (simp only [toNat_ofN, NX.v, IX.v, Nat.le_refl]; done) | ((try simp only [toNat_ofN, NX.v, IX.v, nadd, nsub]); omega) | skip
  · intro i R hi hR
    have i0 := ofN_nonneg i
    rcases i with _ | j
    · cbv
      refine Br.mk (fun hc => ?_) (fun hc => ?_)
      · have hi2 := lt_len hc
        cbv
        refine Chk.mk (Nat.le_refl _) ?_
        cbv
        refine Chk.mk ((by decide)) ?_
        cbv
        refine Chk.mk (inc64 hi2 (by omega)) ?_
        cbv
        refine .mk (hR 1 _ hi2 (by omega) ?_)
        cbv
        repeat' first | apply And.intro | exact trivial | exact SameI.mk (by with_reducible rfl) | exact SameN.mk (by with_reducible rfl) | exact SameL.mk (by with_reducible rfl) | exact SameB.mk (by with_reducible rfl) | exact LeN.mk (by with_reducible exact Nat.le_refl _) | apply SameI.mk | apply SameN.mk | apply SameL.mk | apply SameB.mk | apply LeN.mk
        all_goals first | rfl | exact (ofN_succ _).symm | (simp only [toNat_ofN, NX.v, IX.v, Nat.le_refl]; done) | ((try simp only [toNat_ofN, NX.v, IX.v, nadd, nsub]); omega) | skip
      · have := ge_len hc hi
        omega
    · cbv
      refine Br.mk (fun hc => ?_) (fun hc => ?_)
      · have hi2 := lt_len hc
        cbv
        refine Chk.mk (Nat.le_refl _) ?_
        cbv
        refine Chk.mk (by (try simp only [NX.v, IX.v, nadd, nsub, nmul, aop_add, aop_sub, aop_mul, toNat_ofN, ints_length, List.length_append, List.length_take, List.length_drop, List.length_replicate, List.length_cons, List.length_nil, List.length_map, maxBytes, nats_length, List.length_range]); (try simp only [ofN]); omega) ?_
        cbv
        refine Chk.mk (by (try simp only [NX.v, IX.v, nadd, nsub, nmul, aop_add, aop_sub, aop_mul, toNat_ofN, ints_length, List.length_append, List.length_take, List.length_drop, List.length_replicate, List.length_cons, List.length_nil, List.length_map, maxBytes]); (try simp only [ofN]); omega) ?_
        cbv
        refine App.either rfl ?_
        cbv
        refine Chk.mk (inc64 hi2 (by omega)) ?_
        cbv
        refine .mk (hR (j + 2) _ hi2 (by omega) ?_)
        cbv
        repeat' first | apply And.intro | exact trivial | exact SameI.mk (by with_reducible rfl) | exact SameN.mk (by with_reducible rfl) | exact SameL.mk (by with_reducible rfl) | exact SameB.mk (by with_reducible rfl) | exact LeN.mk (by with_reducible exact Nat.le_refl _) | apply SameI.mk | apply SameN.mk | apply SameL.mk | apply SameB.mk | apply LeN.mk
        all_goals first | rfl | exact (ofN_succ _).symm | (simp only [toNat_ofN, NX.v, IX.v, Nat.le_refl]; done) | ((try simp only [toNat_ofN, NX.v, IX.v, nadd, nsub]); omega) | skip
        · show ((ints (nats (List.range (j + 1)))).drop 0).take (j + 1) ++ [[D.i (ofN (j + 1))]] = ints (nats (List.range (j + 2)))
          have e : (nats (List.range (j + 1))).length = j + 1 := by rw [nats_length, List.length_range]
          rw [List.drop_zero, ints_take, List.take_of_length_le (by omega), ints_one, ints_append]
          simp [nats, List.range_succ]
      · have := ge_len hc hi
        subst this
        cbv
        refine .mk ?_
        cbv
        refine Chk.mk (inR64 (by rw [aop_sub]; simp only [ofN]; omega)) ?_
        cbv
        obtain ⟨L0, hL0⟩ : ∃ L, L = List.range (j + 1) := ⟨_, rfl⟩
        obtain ⟨p0, hp00⟩ : ∃ p, p = perm.toNat := ⟨_, rfl⟩
        rw [← hp00] at hp1
        have hL1 : L0.length = j + 1 := by rw [hL0]; simp
        refine loop_inv [3, 4, 6, 7] (fun (x : OrdX) => x.left.length = x.j ∧ x.p < fact x.j ∧ x.junk.length + x.j = j + 1 ∧ x.out.length + x.j = j + 1 ∧ x.out ++ orderL x.j x.left x.p = orderL (j + 1) (List.range (j + 1)) perm.toNat)
          (fun x => match x with
          | ⟨k, left, junk, p, []⟩ => ⟨[.undef, .undef, .undef, .sl 0 (.l 0) (.l 0) 1 (.t fun _ => left.length) (.t fun _ => left.length) false, .nils, .undef, .int .i64 (.t fun _ => ofN p), .int .i64 (.t fun _ => ofN k - 1), .undef, .undef, .undef, .undef, .undef, .undef, .undef, .undef, .undef, .undef, .undef, .undef, .undef, .undef, .undef, .undef, .undef, .undef, .undef, .undef, .undef, .undef, .undef, .undef, .undef, .undef, .undef, .undef, .undef, .undef, .undef, .undef, .undef, .undef, .undef, .undef, .undef, .undef, .undef, .undef, .undef], [some ⟨true, .rows [.int .i64] fun _ => ints (nats left ++ junk)⟩]⟩
          | ⟨k, left, junk, p, o :: out⟩ => ⟨[.undef, .undef, .undef, .sl 0 (.l 0) (.l 0) 1 (.t fun _ => left.length) (.t fun _ => left.length) false, .sl 1 (.l 0) (.l 0) 1 (.t fun _ => out.length + 1) (.t fun _ => out.length + 1) false, .undef, .int .i64 (.t fun _ => ofN p), .int .i64 (.t fun _ => ofN k - 1), .undef, .undef, .undef, .undef, .undef, .undef, .undef, .undef, .undef, .undef, .undef, .undef, .undef, .undef, .undef, .undef, .undef, .undef, .undef, .undef, .undef, .undef, .undef, .undef, .undef, .undef, .undef, .undef, .undef, .undef, .undef, .undef, .undef, .undef, .undef, .undef, .undef, .undef, .undef, .undef, .undef], [some ⟨true, .rows [.int .i64] fun _ => ints (nats left ++ junk)⟩, some ⟨true, .rows [.int .i64] fun _ => ints (nats (o :: out))⟩]⟩)
          (fun x => x.j) ⟨j + 1, L0, [], p0, []⟩ ⟨hL1, hp1, by simp, by simp, by rw [← hL0, ← hp00]; rfl⟩ ?_ ?_
        · cbv
          repeat' first | apply And.intro | exact trivial | exact SameI.mk (by with_reducible rfl) | exact SameN.mk (by with_reducible rfl) | exact SameL.mk (by with_reducible rfl) | exact SameB.mk (by with_reducible rfl) | exact LeN.mk (by with_reducible exact Nat.le_refl _) | apply SameI.mk | apply SameN.mk | apply SameL.mk | apply SameB.mk | apply LeN.mk
          all_goals first | rfl | exact (ofN_succ _).symm | (simp only [toNat_ofN, NX.v, IX.v, Nat.le_refl]; done) | ((try simp only [toNat_ofN, NX.v, IX.v, nadd, nsub]); omega) | skip
          · show perm = ofN p0
            rw [hp00]; exact (ofN_toNat hp0).symm
          · show ints (nats (List.range (j + 1))) = ints (nats L0 ++ [])
            rw [hL0]; simp
        · intro x R' hx hR'
          obtain ⟨k, left, junk, p, out⟩ := x
          obtain ⟨x1, x2, x3, x4, x5⟩ := hx
          dsimp only at x1 x2 x3 x4 x5 hR'
          rcases out with _ | ⟨o, out⟩
          · simp only [List.length_nil, Nat.zero_add] at x4
            cbv
            refine Br.mk (fun hc => ?_) (fun hc => ?_)
            · rcases k with _ | k
              · have := ge_t.1 hc; simp only [ofN] at this; omega
              have ek : (ofN (k + 1) - 1).toNat = k := by simp only [ofN]; omega
              have hk : k ≤ 14 := by omega
              have hfp := fact_pos k
              have hat : p / fact k < k + 1 := (Nat.div_lt_iff_lt_mul hfp).2 (by rw [Nat.mul_comm]; exact x2)
              have hq : aop .quo (ofN p) (ofN (fact (ofN (k + 1) - 1).toNat)) = ofN (p / fact k) := by rw [ek, aop_quo]; simp only [ofN]; exact Int.ofNat_tdiv p (fact k)
              have hr : aop .rem (ofN p) (ofN (fact (ofN (k + 1) - 1).toNat)) = ofN (p % fact k) := by rw [ek, aop_rem]; simp only [ofN]; exact Int.ofNat_tmod p (fact k)
              obtain ⟨a, ha⟩ : ∃ a, a = p / fact k := ⟨_, rfl⟩
              obtain ⟨b, hb⟩ : ∃ b, b = p % fact k := ⟨_, rfl⟩
              have hb1 : b < fact k := by rw [hb]; exact Nat.mod_lt _ hfp
              rw [← ha] at hat hq
              rw [← hb] at hr
              have hf0 : ofN (fact (ofN (k + 1) - 1).toNat) ≠ 0 := by rw [ek]; simp only [ofN]; omega
              have hlen : (ints (nats left ++ junk)).length = j + 1 := by rw [ints_length, List.length_append, nats_length, x1]; omega
              have q0 := ofN_nonneg a
              cbv
              refine Chk.mk (by (try simp only [NX.v, IX.v, nadd, nsub, nmul, aop_add, aop_sub, aop_mul, toNat_ofN, ints_length, List.length_append, List.length_take, List.length_drop, List.length_replicate, List.length_cons, List.length_nil, List.length_map, maxBytes]); (try simp only [ofN]); omega) ?_
              cbv
              refine Chk.mk (hf0) ?_
              cbv
              refine Chk.mk (by show inR .i64 (aop .quo (ofN p) (ofN (fact (ofN (k + 1) - 1).toNat))) = true; rw [hq]; exact inR64 (by simp only [ofN]; omega)) ?_
              cbv
              refine Chk.mk (by (try simp only [NX.v, IX.v, nadd, nsub, nmul, aop_add, aop_sub, aop_mul, toNat_ofN, ints_length, List.length_append, List.length_take, List.length_drop, List.length_replicate, List.length_cons, List.length_nil, List.length_map, maxBytes]); (try simp only [ofN]); omega) ?_
              cbv
              refine Chk.mk (hf0) ?_
              cbv
              refine Chk.mk (by show 0 ≤ aop .quo (ofN p) (ofN (fact (ofN (k + 1) - 1).toNat)) ∧ aop .quo (ofN p) (ofN (fact (ofN (k + 1) - 1).toNat)) < (left.length : Int); rw [hq, x1]; simp only [ofN]; omega) ?_
              cbv
              refine Chk.mk (by show 0 ≤ ofN (aop .quo (ofN p) (ofN (fact (ofN (k + 1) - 1).toNat))).toNat ∧ ofN (aop .quo (ofN p) (ofN (fact (ofN (k + 1) - 1).toNat))).toNat < ((ints (nats left ++ junk)).length : Int); rw [hq, toNat_ofN, hlen]; simp only [ofN]; omega) ?_
              cbv
              refine Chk.mk (Nat.le_refl _) ?_
              cbv
              refine Chk.mk (by (try simp only [NX.v, IX.v, nadd, nsub, nmul, aop_add, aop_sub, aop_mul, toNat_ofN, ints_length, List.length_append, List.length_take, List.length_drop, List.length_replicate, List.length_cons, List.length_nil, List.length_map, maxBytes]); (try simp only [ofN]); omega) ?_
              cbv
              have ei : at1 (ints (nats left ++ junk)) (aop .quo (ofN p) (ofN (fact (ofN (k + 1) - 1).toNat))).toNat = ofN (left.getD a 0) := by
                rw [hq, toNat_ofN, at1_ints, List.getD_eq_getElem?_getD, List.getElem?_append_left (by rw [nats_length]; omega)]
                simp [nats, List.getD_eq_getElem?_getD, show a < left.length from by omega]
              refine Chk.mk (by show inR .i64 (aop .quo (ofN p) (ofN (fact (ofN (k + 1) - 1).toNat)) + 1) = true; rw [hq]; exact inR64 (by simp only [ofN]; omega)) ?_
              cbv
              refine ⟨(nats left, junk, a), ⟨by dsimp only; rw [nats_length]; omega, by dsimp only; rw [nats_length]; omega⟩, Ent.of_wvs ?_, ?_, ?_⟩
              · cbv
                repeat' first | apply And.intro | exact trivial | exact SameI.mk (by with_reducible rfl) | exact SameN.mk (by with_reducible rfl) | exact SameL.mk (by with_reducible rfl) | exact SameB.mk (by with_reducible rfl) | exact LeN.mk (by with_reducible exact Nat.le_refl _) | apply SameI.mk | apply SameN.mk | apply SameL.mk | apply SameB.mk | apply LeN.mk
                all_goals first | rfl | exact (ofN_succ _).symm | (simp only [toNat_ofN, NX.v, IX.v, Nat.le_refl]; done) | ((try simp only [toNat_ofN, NX.v, IX.v, nadd, nsub]); omega) | skip
                · exact (nats_length left).symm
                · exact Nat.le_of_eq (nats_length left)
                · show aop .quo (ofN p) (ofN (fact (ofN (k + 1) - 1).toNat)) + 1 = ofN a + 1
                  rw [hq]
              · cbv
                repeat' first | apply And.intro | exact trivial | exact SameI.mk (by with_reducible rfl) | exact SameN.mk (by with_reducible rfl) | exact SameL.mk (by with_reducible rfl) | exact SameB.mk (by with_reducible rfl) | exact LeN.mk (by with_reducible exact Nat.le_refl _) | apply SameI.mk | apply SameN.mk | apply SameL.mk | apply SameB.mk | apply LeN.mk
                all_goals first | rfl | exact (ofN_succ _).symm | (simp only [toNat_ofN, NX.v, IX.v, Nat.le_refl]; done) | ((try simp only [toNat_ofN, NX.v, IX.v, nadd, nsub]); omega) | skip
              cbv
              refine Chk.mk (inR64 (by rw [aop_sub]; simp only [ofN]; omega)) ?_
              cbv
              have hel : (left.eraseIdx a).length = left.length - 1 := by rw [List.length_eraseIdx]; simp [show a < left.length from by omega]
              have x6 : orderL (k + 1) left p = left.getD a 0 :: orderL k (left.eraseIdx a) b := by simp only [orderL, ← ha, ← hb]
              rw [x6] at x5
              have hnl : (nats left).eraseIdx a = nats (left.eraseIdx a) := nats_erase left a
              generalize left.eraseIdx a = left' at hel x5 hnl
              generalize left.getD a 0 = v at ei x5
              refine .mk (hR' ⟨k, left', 0 :: junk, b, [v]⟩ _ ⟨by dsimp only; omega, hb1, by simp only [List.length_cons]; omega, by simp only [List.length_cons, List.length_nil]; omega, x5⟩ (by dsimp only; omega) ?_)
              cbv
              repeat' first | apply And.intro | exact trivial | exact SameI.mk (by with_reducible rfl) | exact SameN.mk (by with_reducible rfl) | exact SameL.mk (by with_reducible rfl) | exact SameB.mk (by with_reducible rfl) | exact LeN.mk (by with_reducible exact Nat.le_refl _) | apply SameI.mk | apply SameN.mk | apply SameL.mk | apply SameB.mk | apply LeN.mk
              all_goals first | rfl | exact (ofN_succ _).symm | (simp only [toNat_ofN, NX.v, IX.v, Nat.le_refl]; done) | ((try simp only [toNat_ofN, NX.v, IX.v, nadd, nsub]); omega) | skip
              all_goals first
                | exact hr
                | exact Nat.le_refl _
                | (show (nats left).length - 1 = left'.length; rw [nats_length]; omega)
                | (show left'.length ≤ (nats left).length - 1; rw [nats_length]; omega)
                | (show ints ((nats left).eraseIdx a ++ 0 :: junk) = ints (nats left' ++ 0 :: junk); rw [hnl])
                | (show (ofN (k + 1) - 1) - 1 = ofN k - 1; simp only [ofN]; omega)
                | skip
              show [[D.i (at1 (ints (nats left ++ junk)) (aop .quo (ofN p) (ofN (fact (ofN (k + 1) - 1).toNat))).toNat)]] = ints (nats [v])
              rw [ei]; rfl
            · have hc := ge_f.1 hc
              simp only [ofN] at hc
              omega
          · simp only [List.length_cons] at x4
            cbv
            refine Br.mk (fun hc => ?_) (fun hc => ?_)
            · rcases k with _ | k
              · have := ge_t.1 hc; simp only [ofN] at this; omega
              have ek : (ofN (k + 1) - 1).toNat = k := by simp only [ofN]; omega
              have hk : k ≤ 14 := by omega
              have hfp := fact_pos k
              have hat : p / fact k < k + 1 := (Nat.div_lt_iff_lt_mul hfp).2 (by rw [Nat.mul_comm]; exact x2)
              have hq : aop .quo (ofN p) (ofN (fact (ofN (k + 1) - 1).toNat)) = ofN (p / fact k) := by rw [ek, aop_quo]; simp only [ofN]; exact Int.ofNat_tdiv p (fact k)
              have hr : aop .rem (ofN p) (ofN (fact (ofN (k + 1) - 1).toNat)) = ofN (p % fact k) := by rw [ek, aop_rem]; simp only [ofN]; exact Int.ofNat_tmod p (fact k)
              obtain ⟨a, ha⟩ : ∃ a, a = p / fact k := ⟨_, rfl⟩
              obtain ⟨b, hb⟩ : ∃ b, b = p % fact k := ⟨_, rfl⟩
              have hb1 : b < fact k := by rw [hb]; exact Nat.mod_lt _ hfp
              rw [← ha] at hat hq
              rw [← hb] at hr
              have hf0 : ofN (fact (ofN (k + 1) - 1).toNat) ≠ 0 := by rw [ek]; simp only [ofN]; omega
              have hlen : (ints (nats left ++ junk)).length = j + 1 := by rw [ints_length, List.length_append, nats_length, x1]; omega
              have q0 := ofN_nonneg a
              cbv
              refine Chk.mk (by (try simp only [NX.v, IX.v, nadd, nsub, nmul, aop_add, aop_sub, aop_mul, toNat_ofN, ints_length, List.length_append, List.length_take, List.length_drop, List.length_replicate, List.length_cons, List.length_nil, List.length_map, maxBytes]); (try simp only [ofN]); omega) ?_
              cbv
              refine Chk.mk (hf0) ?_
              cbv
              refine Chk.mk (by show inR .i64 (aop .quo (ofN p) (ofN (fact (ofN (k + 1) - 1).toNat))) = true; rw [hq]; exact inR64 (by simp only [ofN]; omega)) ?_
              cbv
              refine Chk.mk (by (try simp only [NX.v, IX.v, nadd, nsub, nmul, aop_add, aop_sub, aop_mul, toNat_ofN, ints_length, List.length_append, List.length_take, List.length_drop, List.length_replicate, List.length_cons, List.length_nil, List.length_map, maxBytes]); (try simp only [ofN]); omega) ?_
              cbv
              refine Chk.mk (hf0) ?_
              cbv
              refine Chk.mk (by show 0 ≤ aop .quo (ofN p) (ofN (fact (ofN (k + 1) - 1).toNat)) ∧ aop .quo (ofN p) (ofN (fact (ofN (k + 1) - 1).toNat)) < (left.length : Int); rw [hq, x1]; simp only [ofN]; omega) ?_
              cbv
              refine Chk.mk (by show 0 ≤ ofN (aop .quo (ofN p) (ofN (fact (ofN (k + 1) - 1).toNat))).toNat ∧ ofN (aop .quo (ofN p) (ofN (fact (ofN (k + 1) - 1).toNat))).toNat < ((ints (nats left ++ junk)).length : Int); rw [hq, toNat_ofN, hlen]; simp only [ofN]; omega) ?_
              cbv
              refine Chk.mk (Nat.le_refl _) ?_
              cbv
              refine Chk.mk (by (try simp only [NX.v, IX.v, nadd, nsub, nmul, aop_add, aop_sub, aop_mul, toNat_ofN, ints_length, List.length_append, List.length_take, List.length_drop, List.length_replicate, List.length_cons, List.length_nil, List.length_map, maxBytes, nats_length]); (try simp only [ofN]); omega) ?_
              cbv
              refine Chk.mk (by (try simp only [NX.v, IX.v, nadd, nsub, nmul, aop_add, aop_sub, aop_mul, toNat_ofN, ints_length, List.length_append, List.length_take, List.length_drop, List.length_replicate, List.length_cons, List.length_nil, List.length_map, maxBytes]); (try simp only [ofN]); omega) ?_
              cbv
              refine App.either rfl ?_
              cbv
              have ei : at1 (ints (nats left ++ junk)) (aop .quo (ofN p) (ofN (fact (ofN (k + 1) - 1).toNat))).toNat = ofN (left.getD a 0) := by
                rw [hq, toNat_ofN, at1_ints, List.getD_eq_getElem?_getD, List.getElem?_append_left (by rw [nats_length]; omega)]
                simp [nats, List.getD_eq_getElem?_getD, show a < left.length from by omega]
              refine Chk.mk (by show inR .i64 (aop .quo (ofN p) (ofN (fact (ofN (k + 1) - 1).toNat)) + 1) = true; rw [hq]; exact inR64 (by simp only [ofN]; omega)) ?_
              cbv
              refine ⟨(nats left, junk, a), ⟨by dsimp only; rw [nats_length]; omega, by dsimp only; rw [nats_length]; omega⟩, Ent.of_wvs ?_, ?_, ?_⟩
              · cbv
                repeat' first | apply And.intro | exact trivial | exact SameI.mk (by with_reducible rfl) | exact SameN.mk (by with_reducible rfl) | exact SameL.mk (by with_reducible rfl) | exact SameB.mk (by with_reducible rfl) | exact LeN.mk (by with_reducible exact Nat.le_refl _) | apply SameI.mk | apply SameN.mk | apply SameL.mk | apply SameB.mk | apply LeN.mk
                all_goals first | rfl | exact (ofN_succ _).symm | (simp only [toNat_ofN, NX.v, IX.v, Nat.le_refl]; done) | ((try simp only [toNat_ofN, NX.v, IX.v, nadd, nsub]); omega) | skip
                · exact (nats_length left).symm
                · exact Nat.le_of_eq (nats_length left)
                · show aop .quo (ofN p) (ofN (fact (ofN (k + 1) - 1).toNat)) + 1 = ofN a + 1
                  rw [hq]
              · cbv
                repeat' first | apply And.intro | exact trivial | exact SameI.mk (by with_reducible rfl) | exact SameN.mk (by with_reducible rfl) | exact SameL.mk (by with_reducible rfl) | exact SameB.mk (by with_reducible rfl) | exact LeN.mk (by with_reducible exact Nat.le_refl _) | apply SameI.mk | apply SameN.mk | apply SameL.mk | apply SameB.mk | apply LeN.mk
                all_goals first | rfl | exact (ofN_succ _).symm | (simp only [toNat_ofN, NX.v, IX.v, Nat.le_refl]; done) | ((try simp only [toNat_ofN, NX.v, IX.v, nadd, nsub]); omega) | skip
              cbv
              refine Chk.mk (inR64 (by rw [aop_sub]; simp only [ofN]; omega)) ?_
              cbv
              have hel : (left.eraseIdx a).length = left.length - 1 := by rw [List.length_eraseIdx]; simp [show a < left.length from by omega]
              have x6 : orderL (k + 1) left p = left.getD a 0 :: orderL k (left.eraseIdx a) b := by simp only [orderL, ← ha, ← hb]
              rw [x6] at x5
              have hnl : (nats left).eraseIdx a = nats (left.eraseIdx a) := nats_erase left a
              generalize left.eraseIdx a = left' at hel x5 hnl
              generalize left.getD a 0 = v at ei x5
              obtain ⟨out', ho'⟩ : ∃ l, l = out ++ [v] := ⟨_, rfl⟩
              have hol : out'.length = out.length + 1 := by rw [ho']; simp
              refine .mk (hR' ⟨k, left', 0 :: junk, b, o :: out'⟩ _ ⟨by dsimp only; omega, hb1, by simp only [List.length_cons]; omega, by simp only [List.length_cons]; omega, by rw [← x5, ho']; simp⟩ (by dsimp only; omega) ?_)
              cbv
              repeat' first | apply And.intro | exact trivial | exact SameI.mk (by with_reducible rfl) | exact SameN.mk (by with_reducible rfl) | exact SameL.mk (by with_reducible rfl) | exact SameB.mk (by with_reducible rfl) | exact LeN.mk (by with_reducible exact Nat.le_refl _) | apply SameI.mk | apply SameN.mk | apply SameL.mk | apply SameB.mk | apply LeN.mk
              all_goals first | rfl | exact (ofN_succ _).symm | (simp only [toNat_ofN, NX.v, IX.v, Nat.le_refl]; done) | ((try simp only [toNat_ofN, NX.v, IX.v, nadd, nsub]); omega) | skip
              all_goals first
                | exact hr
                | exact Nat.le_refl _
                | (show (nats left).length - 1 = left'.length; rw [nats_length]; omega)
                | (show left'.length ≤ (nats left).length - 1; rw [nats_length]; omega)
                | (show ints ((nats left).eraseIdx a ++ 0 :: junk) = ints (nats left' ++ 0 :: junk); rw [hnl])
                | (show (ofN (k + 1) - 1) - 1 = ofN k - 1; simp only [ofN]; omega)
                | skip
              show ((ints (nats (o :: out))).drop 0).take (out.length + 1) ++ [[D.i (at1 (ints (nats left ++ junk)) (aop .quo (ofN p) (ofN (fact (ofN (k + 1) - 1).toNat))).toNat)]] = ints (nats (o :: out'))
              have e : (nats (o :: out)).length = out.length + 1 := by rw [nats_length]; rfl
              rw [ei, List.drop_zero, ints_take, List.take_of_length_le (by omega), ints_one, ints_append, ho']
              simp [nats]
            · have hc := ge_f.1 hc
              simp only [ofN] at hc
              obtain rfl : k = 0 := by omega
              cbv
              refine .mk ?_
              cbv
              have x6 : o :: out = orderL (j + 1) (List.range (j + 1)) perm.toNat := by rw [← x5]; simp [show orderL 0 left p = [] from rfl]
              refine .mk _ _ h2 ?_ ?_
              all_goals cbv
              all_goals repeat' first | apply And.intro | exact trivial | exact SameI.mk (by with_reducible rfl) | exact SameN.mk (by with_reducible rfl) | exact SameL.mk (by with_reducible rfl) | exact SameB.mk (by with_reducible rfl) | exact LeN.mk (by with_reducible exact Nat.le_refl _) | apply SameI.mk | apply SameN.mk | apply SameL.mk | apply SameB.mk | apply LeN.mk
              all_goals first | rfl | exact (ofN_succ _).symm | (simp only [toNat_ofN, NX.v, IX.v, Nat.le_refl]; done) | ((try simp only [toNat_ofN, NX.v, IX.v, nadd, nsub]); omega) | skip
              show ints (nats (o :: out)) = ints (nats (orderL (j + 1) (List.range (j + 1)) perm.toNat))
              rw [x6]
end Go.Proofs.Ytlgmbpnlakjefaa
