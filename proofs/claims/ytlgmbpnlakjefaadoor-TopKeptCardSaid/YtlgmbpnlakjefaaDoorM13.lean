/- Put together by a program of this work out of its texts Bl12, Bl13, BlP. -/
import Derived.Test.YtlgmbpnlakjefaaDoorM12
section
/- Contracts: the order of a key. -/
namespace Go.Proofs.YtlgmbpnlakjefaaDoor
open Go.Sy
set_option maxRecDepth 100000
set_option maxHeartbeats 1000000
set_option linter.unusedSimpArgs false
set_option linter.unusedVariables false
def orderL : Nat → List Nat → Nat → List Nat
  | 0, _, _ => []
  | k + 1, left, p => left.getD (p / fact k) 0 :: orderL k (left.eraseIdx (p / fact k)) (p % fact k)
theorem orderL_length : ∀ (k : Nat) (left : List Nat) (p : Nat), (orderL k left p).length = k
  | 0, _, _ => rfl
  | k + 1, left, p => by simp [orderL, orderL_length k]
def nats (l : List Nat) : List Int := l.map ofN
theorem nats_length (l : List Nat) : (nats l).length = l.length := by simp [nats]
theorem nats_erase : ∀ (l : List Nat) (a : Nat), (nats l).eraseIdx a = nats (l.eraseIdx a)
  | [], _ => rfl
  | _ :: _, 0 => rfl
  | x :: l, a + 1 => congrArg (ofN x :: ·) (nats_erase l a)
def ordI (n : Nat) (p : Int) : List Int := nats (orderL n (List.range n) p.toNat)
structure OrdX where
  j : Nat
  left : List Nat
  junk : List Int
  p : Nat
  out : List Nat
def veil (n : Nat) (perm pad : Int) : List AV := [.int .i64 (.t fun _ => ofN n), .int .i64 (.t fun _ => perm), .int .u16 (.t fun _ => pad)]
def cOrder : Con := con (fun x : Nat × Int × Int => [.agg (veil x.1 x.2.1 x.2.2)]) (fun _ => []) (fun x => 1 ≤ x.1 ∧ x.1 ≤ 15 ∧ 0 ≤ x.2.1 ∧ x.2.1.toNat < fact x.1)
  (fun x K => K (.sl 0 (.l 0) (.l 0) 1 (.t fun _ => x.1) (.t fun _ => x.1) false) [some ⟨true, .rows [.int .i64] fun _ => ints (ordI x.1 x.2.1)⟩])
theorem e10 : EnvOk Tryd.prog (env [(58, cFact), (59, cDelete)]) := envOk_cons (envOk_cons envOk_nil s59 k59.callable) s58 k58.callable
theorem s50 : Sound Tryd.prog 50 cOrder := by
  refine k50.con tabOk e10 mixed o50 fun x K hl h2 => ?_
  obtain ⟨n, perm, pad⟩ := x
  obtain ⟨hn1, hn2, hp0, hp1⟩ := hl
  dsimp only at hn1 hn2 hp0 hp1 h2 ⊢
  cbv
  refine loop_inv [1, 3, 4, 10, 11] (fun (i : Nat) => i ≤ n) (fun i => match i with
    | 0 => ⟨[.undef, .ptr 0 (.l 0) (.l 0), .undef, .nils, .nils, .undef, .undef, .undef, .undef, .undef, .int .i64 (.t fun _ => ofN n), .int .i64 (.t fun _ => ofN 0), .undef, .undef, .undef, .undef, .undef, .undef, .undef, .undef, .undef, .undef, .undef, .undef, .undef, .undef, .undef, .undef, .undef, .undef, .undef, .undef, .undef, .undef, .undef, .undef, .undef, .undef, .undef, .undef, .undef, .undef, .undef, .undef, .undef, .undef, .undef, .undef, .undef], [some ⟨true, .cells [.int .i64 (.t fun _ => ofN n), .int .i64 (.t fun _ => perm), .int .u16 (.t fun _ => pad)]⟩]⟩
    | j + 1 => ⟨[.undef, .ptr 0 (.l 0) (.l 0), .undef, .sl 1 (.l 0) (.l 0) 1 (.t fun _ => j + 1) (.t fun _ => j + 1) false, .nils, .undef, .undef, .undef, .undef, .undef, .int .i64 (.t fun _ => ofN n), .int .i64 (.t fun _ => ofN (j + 1)), .undef, .undef, .undef, .undef, .undef, .undef, .undef, .undef, .undef, .undef, .undef, .undef, .undef, .undef, .undef, .undef, .undef, .undef, .undef, .undef, .undef, .undef, .undef, .undef, .undef, .undef, .undef, .undef, .undef, .undef, .undef, .undef, .undef, .undef, .undef, .undef, .undef], [some ⟨true, .cells [.int .i64 (.t fun _ => ofN n), .int .i64 (.t fun _ => perm), .int .u16 (.t fun _ => pad)]⟩, some ⟨true, .rows [.int .i64] fun _ => ints (nats (List.range (j + 1)))⟩]⟩) (fun i => n - i) 0 (Nat.zero_le _) ?_ ?_
  · cbv
    repeat' first | apply And.intro | exact trivial | exact SameI.mk (by with_reducible rfl) | exact SameN.mk (by with_reducible rfl) | exact SameL.mk (by with_reducible rfl) | exact SameB.mk (by with_reducible rfl) | exact LeN.mk (by with_reducible exact Nat.le_refl _) | apply SameI.mk | apply SameN.mk | apply SameL.mk | apply SameB.mk | apply LeN.mk
    all_goals first | rfl | exact (ofN_succ _).symm | (simp only [toNat_ofN, NX.v, IX.v, Nat.le_refl]; done) | ((try simp only [toNat_ofN, NX.v, IX.v, nadd, nsub]); omega) | skip
  · intro i R hi hR
    have i0 := ofN_nonneg i
    rcases i with _ | j
    · cbv
      refine Br.mk (fun hc => ?_) (fun hc => ?_)
      · have hi2 := lt_len hc
        cbv
        refine Chk.mk (Nat.le_refl _) ?_
        cbv
        refine Chk.mk ((by decide)) ?_
        cbv
        refine Chk.mk (inc64 hi2 (by omega)) ?_
        cbv
        refine .mk (hR 1 _ hi2 (by omega) ?_)
        cbv
        repeat' first | apply And.intro | exact trivial | exact SameI.mk (by with_reducible rfl) | exact SameN.mk (by with_reducible rfl) | exact SameL.mk (by with_reducible rfl) | exact SameB.mk (by with_reducible rfl) | exact LeN.mk (by with_reducible exact Nat.le_refl _) | apply SameI.mk | apply SameN.mk | apply SameL.mk | apply SameB.mk | apply LeN.mk
        all_goals first | rfl | exact (ofN_succ _).symm | (simp only [toNat_ofN, NX.v, IX.v, Nat.le_refl]; done) | ((try simp only [toNat_ofN, NX.v, IX.v, nadd, nsub]); omega) | skip
      · have := ge_len hc hi
        omega
    · cbv
      refine Br.mk (fun hc => ?_) (fun hc => ?_)
      · have hi2 := lt_len hc
        cbv
        refine Chk.mk (Nat.le_refl _) ?_
        cbv
        refine Chk.mk (by (try simp only [NX.v, IX.v, nadd, nsub, nmul, aop_add, aop_sub, aop_mul, toNat_ofN, ints_length, List.length_append, List.length_take, List.length_drop, List.length_replicate, List.length_cons, List.length_nil, List.length_map, maxBytes, nats_length, List.length_range]); (try simp only [ofN]); omega) ?_
        cbv
        refine Chk.mk (by (try simp only [NX.v, IX.v, nadd, nsub, nmul, aop_add, aop_sub, aop_mul, toNat_ofN, ints_length, List.length_append, List.length_take, List.length_drop, List.length_replicate, List.length_cons, List.length_nil, List.length_map, maxBytes]); (try simp only [ofN]); omega) ?_
        cbv
        refine App.either rfl ?_
        cbv
        refine Chk.mk (inc64 hi2 (by omega)) ?_
        cbv
        refine .mk (hR (j + 2) _ hi2 (by omega) ?_)
        cbv
        repeat' first | apply And.intro | exact trivial | exact SameI.mk (by with_reducible rfl) | exact SameN.mk (by with_reducible rfl) | exact SameL.mk (by with_reducible rfl) | exact SameB.mk (by with_reducible rfl) | exact LeN.mk (by with_reducible exact Nat.le_refl _) | apply SameI.mk | apply SameN.mk | apply SameL.mk | apply SameB.mk | apply LeN.mk
        all_goals first | rfl | exact (ofN_succ _).symm | (simp only [toNat_ofN, NX.v, IX.v, Nat.le_refl]; done) | ((try simp only [toNat_ofN, NX.v, IX.v, nadd, nsub]); omega) | skip
        · show ((ints (nats (List.range (j + 1)))).drop 0).take (j + 1) ++ [[D.i (ofN (j + 1))]] = ints (nats (List.range (j + 2)))
          have e : (nats (List.range (j + 1))).length = j + 1 := by rw [nats_length, List.length_range]
          rw [List.drop_zero, ints_take, List.take_of_length_le (by omega), ints_one, ints_append]
          simp [nats, List.range_succ]
      · have := ge_len hc hi
        subst this
        cbv
        refine .mk ?_
        cbv
        refine Chk.mk (inR64 (by rw [aop_sub]; simp only [ofN]; omega)) ?_
        cbv
        obtain ⟨L0, hL0⟩ : ∃ L, L = List.range (j + 1) := ⟨_, rfl⟩
        obtain ⟨p0, hp00⟩ : ∃ p, p = perm.toNat := ⟨_, rfl⟩
        rw [← hp00] at hp1
        have hL1 : L0.length = j + 1 := by rw [hL0]; simp
        refine loop_inv [3, 4, 6, 7] (fun (x : OrdX) => x.left.length = x.j ∧ x.p < fact x.j ∧ x.junk.length + x.j = j + 1 ∧ x.out.length + x.j = j + 1 ∧ x.out ++ orderL x.j x.left x.p = orderL (j + 1) (List.range (j + 1)) perm.toNat)
          (fun x => match x with
          | ⟨k, left, junk, p, []⟩ => ⟨[.undef, .undef, .undef, .sl 0 (.l 0) (.l 0) 1 (.t fun _ => left.length) (.t fun _ => left.length) false, .nils, .undef, .int .i64 (.t fun _ => ofN p), .int .i64 (.t fun _ => ofN k - 1), .undef, .undef, .undef, .undef, .undef, .undef, .undef, .undef, .undef, .undef, .undef, .undef, .undef, .undef, .undef, .undef, .undef, .undef, .undef, .undef, .undef, .undef, .undef, .undef, .undef, .undef, .undef, .undef, .undef, .undef, .undef, .undef, .undef, .undef, .undef, .undef, .undef, .undef, .undef, .undef, .undef], [some ⟨true, .rows [.int .i64] fun _ => ints (nats left ++ junk)⟩]⟩
          | ⟨k, left, junk, p, o :: out⟩ => ⟨[.undef, .undef, .undef, .sl 0 (.l 0) (.l 0) 1 (.t fun _ => left.length) (.t fun _ => left.length) false, .sl 1 (.l 0) (.l 0) 1 (.t fun _ => out.length + 1) (.t fun _ => out.length + 1) false, .undef, .int .i64 (.t fun _ => ofN p), .int .i64 (.t fun _ => ofN k - 1), .undef, .undef, .undef, .undef, .undef, .undef, .undef, .undef, .undef, .undef, .undef, .undef, .undef, .undef, .undef, .undef, .undef, .undef, .undef, .undef, .undef, .undef, .undef, .undef, .undef, .undef, .undef, .undef, .undef, .undef, .undef, .undef, .undef, .undef, .undef, .undef, .undef, .undef, .undef, .undef, .undef], [some ⟨true, .rows [.int .i64] fun _ => ints (nats left ++ junk)⟩, some ⟨true, .rows [.int .i64] fun _ => ints (nats (o :: out))⟩]⟩)
          (fun x => x.j) ⟨j + 1, L0, [], p0, []⟩ ⟨hL1, hp1, by simp, by simp, by rw [← hL0, ← hp00]; rfl⟩ ?_ ?_
        · cbv
          repeat' first | apply And.intro | exact trivial | exact SameI.mk (by with_reducible rfl) | exact SameN.mk (by with_reducible rfl) | exact SameL.mk (by with_reducible rfl) | exact SameB.mk (by with_reducible rfl) | exact LeN.mk (by with_reducible exact Nat.le_refl _) | apply SameI.mk | apply SameN.mk | apply SameL.mk | apply SameB.mk | apply LeN.mk
          all_goals first | rfl | exact (ofN_succ _).symm | (simp only [toNat_ofN, NX.v, IX.v, Nat.le_refl]; done) | ((try simp only [toNat_ofN, NX.v, IX.v, nadd, nsub]); omega) | skip
          · show perm = ofN p0
            rw [hp00]; exact (ofN_toNat hp0).symm
          · show ints (nats (List.range (j + 1))) = ints (nats L0 ++ [])
            rw [hL0]; simp
        · intro x R' hx hR'
          obtain ⟨k, left, junk, p, out⟩ := x
          obtain ⟨x1, x2, x3, x4, x5⟩ := hx
          dsimp only at x1 x2 x3 x4 x5 hR'
          rcases out with _ | ⟨o, out⟩
          · simp only [List.length_nil, Nat.zero_add] at x4
            cbv
            refine Br.mk (fun hc => ?_) (fun hc => ?_)
            · rcases k with _ | k
              · have := ge_t.1 hc; simp only [ofN] at this; omega
              have ek : (ofN (k + 1) - 1).toNat = k := by simp only [ofN]; omega
              have hk : k ≤ 14 := by omega
              have hfp := fact_pos k
              have hat : p / fact k < k + 1 := (Nat.div_lt_iff_lt_mul hfp).2 (by rw [Nat.mul_comm]; exact x2)
              have hq : aop .quo (ofN p) (ofN (fact (ofN (k + 1) - 1).toNat)) = ofN (p / fact k) := by rw [ek, aop_quo]; simp only [ofN]; exact Int.ofNat_tdiv p (fact k)
              have hr : aop .rem (ofN p) (ofN (fact (ofN (k + 1) - 1).toNat)) = ofN (p % fact k) := by rw [ek, aop_rem]; simp only [ofN]; exact Int.ofNat_tmod p (fact k)
              obtain ⟨a, ha⟩ : ∃ a, a = p / fact k := ⟨_, rfl⟩
              obtain ⟨b, hb⟩ : ∃ b, b = p % fact k := ⟨_, rfl⟩
              have hb1 : b < fact k := by rw [hb]; exact Nat.mod_lt _ hfp
              rw [← ha] at hat hq
              rw [← hb] at hr
              have hf0 : ofN (fact (ofN (k + 1) - 1).toNat) ≠ 0 := by rw [ek]; simp only [ofN]; omega
              have hlen : (ints (nats left ++ junk)).length = j + 1 := by rw [ints_length, List.length_append, nats_length, x1]; omega
              have q0 := ofN_nonneg a
              cbv
              refine Chk.mk (by (try simp only [NX.v, IX.v, nadd, nsub, nmul, aop_add, aop_sub, aop_mul, toNat_ofN, ints_length, List.length_append, List.length_take, List.length_drop, List.length_replicate, List.length_cons, List.length_nil, List.length_map, maxBytes]); (try simp only [ofN]); omega) ?_
              cbv
              refine Chk.mk (hf0) ?_
              cbv
              refine Chk.mk (by show inR .i64 (aop .quo (ofN p) (ofN (fact (ofN (k + 1) - 1).toNat))) = true; rw [hq]; exact inR64 (by simp only [ofN]; omega)) ?_
              cbv
              refine Chk.mk (by (try simp only [NX.v, IX.v, nadd, nsub, nmul, aop_add, aop_sub, aop_mul, toNat_ofN, ints_length, List.length_append, List.length_take, List.length_drop, List.length_replicate, List.length_cons, List.length_nil, List.length_map, maxBytes]); (try simp only [ofN]); omega) ?_
              cbv
              refine Chk.mk (hf0) ?_
              cbv
              refine Chk.mk (by show 0 ≤ aop .quo (ofN p) (ofN (fact (ofN (k + 1) - 1).toNat)) ∧ aop .quo (ofN p) (ofN (fact (ofN (k + 1) - 1).toNat)) < (left.length : Int); rw [hq, x1]; simp only [ofN]; omega) ?_
              cbv
              refine Chk.mk (by show 0 ≤ ofN (aop .quo (ofN p) (ofN (fact (ofN (k + 1) - 1).toNat))).toNat ∧ ofN (aop .quo (ofN p) (ofN (fact (ofN (k + 1) - 1).toNat))).toNat < ((ints (nats left ++ junk)).length : Int); rw [hq, toNat_ofN, hlen]; simp only [ofN]; omega) ?_
              cbv
              refine Chk.mk (Nat.le_refl _) ?_
              cbv
              refine Chk.mk (by (try simp only [NX.v, IX.v, nadd, nsub, nmul, aop_add, aop_sub, aop_mul, toNat_ofN, ints_length, List.length_append, List.length_take, List.length_drop, List.length_replicate, List.length_cons, List.length_nil, List.length_map, maxBytes]); (try simp only [ofN]); omega) ?_
              cbv
              have ei : at1 (ints (nats left ++ junk)) (aop .quo (ofN p) (ofN (fact (ofN (k + 1) - 1).toNat))).toNat = ofN (left.getD a 0) := by
                rw [hq, toNat_ofN, at1_ints, List.getD_eq_getElem?_getD, List.getElem?_append_left (by rw [nats_length]; omega)]
                simp [nats, List.getD_eq_getElem?_getD, show a < left.length from by omega]
              refine Chk.mk (by show inR .i64 (aop .quo (ofN p) (ofN (fact (ofN (k + 1) - 1).toNat)) + 1) = true; rw [hq]; exact inR64 (by simp only [ofN]; omega)) ?_
              cbv
              refine ⟨(nats left, junk, a), ⟨by dsimp only; rw [nats_length]; omega, by dsimp only; rw [nats_length]; omega⟩, Ent.of_wvs ?_, ?_, ?_⟩
              · cbv
                repeat' first | apply And.intro | exact trivial | exact SameI.mk (by with_reducible rfl) | exact SameN.mk (by with_reducible rfl) | exact SameL.mk (by with_reducible rfl) | exact SameB.mk (by with_reducible rfl) | exact LeN.mk (by with_reducible exact Nat.le_refl _) | apply SameI.mk | apply SameN.mk | apply SameL.mk | apply SameB.mk | apply LeN.mk
                all_goals first | rfl | exact (ofN_succ _).symm | (simp only [toNat_ofN, NX.v, IX.v, Nat.le_refl]; done) | ((try simp only [toNat_ofN, NX.v, IX.v, nadd, nsub]); omega) | skip
                · exact (nats_length left).symm
                · exact Nat.le_of_eq (nats_length left)
                · show aop .quo (ofN p) (ofN (fact (ofN (k + 1) - 1).toNat)) + 1 = ofN a + 1
                  rw [hq]
              · cbv
                repeat' first | apply And.intro | exact trivial | exact SameI.mk (by with_reducible rfl) | exact SameN.mk (by with_reducible rfl) | exact SameL.mk (by with_reducible rfl) | exact SameB.mk (by with_reducible rfl) | exact LeN.mk (by with_reducible exact Nat.le_refl _) | apply SameI.mk | apply SameN.mk | apply SameL.mk | apply SameB.mk | apply LeN.mk
                all_goals first | rfl | exact (ofN_succ _).symm | (simp only [toNat_ofN, NX.v, IX.v, Nat.le_refl]; done) | ((try simp only [toNat_ofN, NX.v, IX.v, nadd, nsub]); omega) | skip
              cbv
              refine Chk.mk (inR64 (by rw [aop_sub]; simp only [ofN]; omega)) ?_
              cbv
              have hel : (left.eraseIdx a).length = left.length - 1 := by rw [List.length_eraseIdx]; simp [show a < left.length from by omega]
              have x6 : orderL (k + 1) left p = left.getD a 0 :: orderL k (left.eraseIdx a) b := by simp only [orderL, ← ha, ← hb]
              rw [x6] at x5
              have hnl : (nats left).eraseIdx a = nats (left.eraseIdx a) := nats_erase left a
              generalize left.eraseIdx a = left' at hel x5 hnl
              generalize left.getD a 0 = v at ei x5
              refine .mk (hR' ⟨k, left', 0 :: junk, b, [v]⟩ _ ⟨by dsimp only; omega, hb1, by simp only [List.length_cons]; omega, by simp only [List.length_cons, List.length_nil]; omega, x5⟩ (by dsimp only; omega) ?_)
              cbv
              repeat' first | apply And.intro | exact trivial | exact SameI.mk (by with_reducible rfl) | exact SameN.mk (by with_reducible rfl) | exact SameL.mk (by with_reducible rfl) | exact SameB.mk (by with_reducible rfl) | exact LeN.mk (by with_reducible exact Nat.le_refl _) | apply SameI.mk | apply SameN.mk | apply SameL.mk | apply SameB.mk | apply LeN.mk
              all_goals first | rfl | exact (ofN_succ _).symm | (simp only [toNat_ofN, NX.v, IX.v, Nat.le_refl]; done) | ((try simp only [toNat_ofN, NX.v, IX.v, nadd, nsub]); omega) | skip
              all_goals first
                | exact hr
                | exact Nat.le_refl _
                | (show (nats left).length - 1 = left'.length; rw [nats_length]; omega)
                | (show left'.length ≤ (nats left).length - 1; rw [nats_length]; omega)
                | (show ints ((nats left).eraseIdx a ++ 0 :: junk) = ints (nats left' ++ 0 :: junk); rw [hnl])
                | (show (ofN (k + 1) - 1) - 1 = ofN k - 1; simp only [ofN]; omega)
                | skip
              show [[D.i (at1 (ints (nats left ++ junk)) (aop .quo (ofN p) (ofN (fact (ofN (k + 1) - 1).toNat))).toNat)]] = ints (nats [v])
              rw [ei]; rfl
            · have hc := ge_f.1 hc
              simp only [ofN] at hc
              omega
          · simp only [List.length_cons] at x4
            cbv
            refine Br.mk (fun hc => ?_) (fun hc => ?_)
            · rcases k with _ | k
              · have := ge_t.1 hc; simp only [ofN] at this; omega
              have ek : (ofN (k + 1) - 1).toNat = k := by simp only [ofN]; omega
              have hk : k ≤ 14 := by omega
              have hfp := fact_pos k
              have hat : p / fact k < k + 1 := (Nat.div_lt_iff_lt_mul hfp).2 (by rw [Nat.mul_comm]; exact x2)
              have hq : aop .quo (ofN p) (ofN (fact (ofN (k + 1) - 1).toNat)) = ofN (p / fact k) := by rw [ek, aop_quo]; simp only [ofN]; exact Int.ofNat_tdiv p (fact k)
              have hr : aop .rem (ofN p) (ofN (fact (ofN (k + 1) - 1).toNat)) = ofN (p % fact k) := by rw [ek, aop_rem]; simp only [ofN]; exact Int.ofNat_tmod p (fact k)
              obtain ⟨a, ha⟩ : ∃ a, a = p / fact k := ⟨_, rfl⟩
              obtain ⟨b, hb⟩ : ∃ b, b = p % fact k := ⟨_, rfl⟩
              have hb1 : b < fact k := by rw [hb]; exact Nat.mod_lt _ hfp
              rw [← ha] at hat hq
              rw [← hb] at hr
              have hf0 : ofN (fact (ofN (k + 1) - 1).toNat) ≠ 0 := by rw [ek]; simp only [ofN]; omega
              have hlen : (ints (nats left ++ junk)).length = j + 1 := by rw [ints_length, List.length_append, nats_length, x1]; omega
              have q0 := ofN_nonneg a
              cbv
              refine Chk.mk (by (try simp only [NX.v, IX.v, nadd, nsub, nmul, aop_add, aop_sub, aop_mul, toNat_ofN, ints_length, List.length_append, List.length_take, List.length_drop, List.length_replicate, List.length_cons, List.length_nil, List.length_map, maxBytes]); (try simp only [ofN]); omega) ?_
              cbv
              refine Chk.mk (hf0) ?_
              cbv
              refine Chk.mk (by show inR .i64 (aop .quo (ofN p) (ofN (fact (ofN (k + 1) - 1).toNat))) = true; rw [hq]; exact inR64 (by simp only [ofN]; omega)) ?_
              cbv
              refine Chk.mk (by (try simp only [NX.v, IX.v, nadd, nsub, nmul, aop_add, aop_sub, aop_mul, toNat_ofN, ints_length, List.length_append, List.length_take, List.length_drop, List.length_replicate, List.length_cons, List.length_nil, List.length_map, maxBytes]); (try simp only [ofN]); omega) ?_
              cbv
              refine Chk.mk (hf0) ?_
              cbv
              refine Chk.mk (by show 0 ≤ aop .quo (ofN p) (ofN (fact (ofN (k + 1) - 1).toNat)) ∧ aop .quo (ofN p) (ofN (fact (ofN (k + 1) - 1).toNat)) < (left.length : Int); rw [hq, x1]; simp only [ofN]; omega) ?_
              cbv
              refine Chk.mk (by show 0 ≤ ofN (aop .quo (ofN p) (ofN (fact (ofN (k + 1) - 1).toNat))).toNat ∧ ofN (aop .quo (ofN p) (ofN (fact (ofN (k + 1) - 1).toNat))).toNat < ((ints (nats left ++ junk)).length : Int); rw [hq, toNat_ofN, hlen]; simp only [ofN]; omega) ?_
              cbv
              refine Chk.mk (Nat.le_refl _) ?_
              cbv
              refine Chk.mk (by (try simp only [NX.v, IX.v, nadd, nsub, nmul, aop_add, aop_sub, aop_mul, toNat_ofN, ints_length, List.length_append, List.length_take, List.length_drop, List.length_replicate, List.length_cons, List.length_nil, List.length_map, maxBytes, nats_length]); (try simp only [ofN]); omega) ?_
              cbv
              refine Chk.mk (by (try simp only [NX.v, IX.v, nadd, nsub, nmul, aop_add, aop_sub, aop_mul, toNat_ofN, ints_length, List.length_append, List.length_take, List.length_drop, List.length_replicate, List.length_cons, List.length_nil, List.length_map, maxBytes]); (try simp only [ofN]); omega) ?_
              cbv
              refine App.either rfl ?_
              cbv
              have ei : at1 (ints (nats left ++ junk)) (aop .quo (ofN p) (ofN (fact (ofN (k + 1) - 1).toNat))).toNat = ofN (left.getD a 0) := by
                rw [hq, toNat_ofN, at1_ints, List.getD_eq_getElem?_getD, List.getElem?_append_left (by rw [nats_length]; omega)]
                simp [nats, List.getD_eq_getElem?_getD, show a < left.length from by omega]
              refine Chk.mk (by show inR .i64 (aop .quo (ofN p) (ofN (fact (ofN (k + 1) - 1).toNat)) + 1) = true; rw [hq]; exact inR64 (by simp only [ofN]; omega)) ?_
              cbv
              refine ⟨(nats left, junk, a), ⟨by dsimp only; rw [nats_length]; omega, by dsimp only; rw [nats_length]; omega⟩, Ent.of_wvs ?_, ?_, ?_⟩
              · cbv
                repeat' first | apply And.intro | exact trivial | exact SameI.mk (by with_reducible rfl) | exact SameN.mk (by with_reducible rfl) | exact SameL.mk (by with_reducible rfl) | exact SameB.mk (by with_reducible rfl) | exact LeN.mk (by with_reducible exact Nat.le_refl _) | apply SameI.mk | apply SameN.mk | apply SameL.mk | apply SameB.mk | apply LeN.mk
                all_goals first | rfl | exact (ofN_succ _).symm | (simp only [toNat_ofN, NX.v, IX.v, Nat.le_refl]; done) | ((try simp only [toNat_ofN, NX.v, IX.v, nadd, nsub]); omega) | skip
                · exact (nats_length left).symm
                · exact Nat.le_of_eq (nats_length left)
                · show aop .quo (ofN p) (ofN (fact (ofN (k + 1) - 1).toNat)) + 1 = ofN a + 1
                  rw [hq]
              · cbv
                repeat' first | apply And.intro | exact trivial | exact SameI.mk (by with_reducible rfl) | exact SameN.mk (by with_reducible rfl) | exact SameL.mk (by with_reducible rfl) | exact SameB.mk (by with_reducible rfl) | exact LeN.mk (by with_reducible exact Nat.le_refl _) | apply SameI.mk | apply SameN.mk | apply SameL.mk | apply SameB.mk | apply LeN.mk
                all_goals first | rfl | exact (ofN_succ _).symm | (simp only [toNat_ofN, NX.v, IX.v, Nat.le_refl]; done) | ((try simp only [toNat_ofN, NX.v, IX.v, nadd, nsub]); omega) | skip
              cbv
              refine Chk.mk (inR64 (by rw [aop_sub]; simp only [ofN]; omega)) ?_
              cbv
              have hel : (left.eraseIdx a).length = left.length - 1 := by rw [List.length_eraseIdx]; simp [show a < left.length from by omega]
              have x6 : orderL (k + 1) left p = left.getD a 0 :: orderL k (left.eraseIdx a) b := by simp only [orderL, ← ha, ← hb]
              rw [x6] at x5
              have hnl : (nats left).eraseIdx a = nats (left.eraseIdx a) := nats_erase left a
              generalize left.eraseIdx a = left' at hel x5 hnl
              generalize left.getD a 0 = v at ei x5
              obtain ⟨out', ho'⟩ : ∃ l, l = out ++ [v] := ⟨_, rfl⟩
              have hol : out'.length = out.length + 1 := by rw [ho']; simp
              refine .mk (hR' ⟨k, left', 0 :: junk, b, o :: out'⟩ _ ⟨by dsimp only; omega, hb1, by simp only [List.length_cons]; omega, by simp only [List.length_cons]; omega, by rw [← x5, ho']; simp⟩ (by dsimp only; omega) ?_)
              cbv
              repeat' first | apply And.intro | exact trivial | exact SameI.mk (by with_reducible rfl) | exact SameN.mk (by with_reducible rfl) | exact SameL.mk (by with_reducible rfl) | exact SameB.mk (by with_reducible rfl) | exact LeN.mk (by with_reducible exact Nat.le_refl _) | apply SameI.mk | apply SameN.mk | apply SameL.mk | apply SameB.mk | apply LeN.mk
              all_goals first | rfl | exact (ofN_succ _).symm | (simp only [toNat_ofN, NX.v, IX.v, Nat.le_refl]; done) | ((try simp only [toNat_ofN, NX.v, IX.v, nadd, nsub]); omega) | skip
              all_goals first
                | exact hr
                | exact Nat.le_refl _
                | (show (nats left).length - 1 = left'.length; rw [nats_length]; omega)
                | (show left'.length ≤ (nats left).length - 1; rw [nats_length]; omega)
                | (show ints ((nats left).eraseIdx a ++ 0 :: junk) = ints (nats left' ++ 0 :: junk); rw [hnl])
                | (show (ofN (k + 1) - 1) - 1 = ofN k - 1; simp only [ofN]; omega)
                | skip
              show ((ints (nats (o :: out))).drop 0).take (out.length + 1) ++ [[D.i (at1 (ints (nats left ++ junk)) (aop .quo (ofN p) (ofN (fact (ofN (k + 1) - 1).toNat))).toNat)]] = ints (nats (o :: out'))
              have e : (nats (o :: out)).length = out.length + 1 := by rw [nats_length]; rfl
              rw [ei, List.drop_zero, ints_take, List.take_of_length_le (by omega), ints_one, ints_append, ho']
              simp [nats]
            · have hc := ge_f.1 hc
              simp only [ofN] at hc
              obtain rfl : k = 0 := by omega
              cbv
              refine .mk ?_
              cbv
              have x6 : o :: out = orderL (j + 1) (List.range (j + 1)) perm.toNat := by rw [← x5]; simp [show orderL 0 left p = [] from rfl]
              refine .mk _ _ h2 ?_ ?_
              all_goals cbv
              all_goals repeat' first | apply And.intro | exact trivial | exact SameI.mk (by with_reducible rfl) | exact SameN.mk (by with_reducible rfl) | exact SameL.mk (by with_reducible rfl) | exact SameB.mk (by with_reducible rfl) | exact LeN.mk (by with_reducible exact Nat.le_refl _) | apply SameI.mk | apply SameN.mk | apply SameL.mk | apply SameB.mk | apply LeN.mk
              all_goals first | rfl | exact (ofN_succ _).symm | (simp only [toNat_ofN, NX.v, IX.v, Nat.le_refl]; done) | ((try simp only [toNat_ofN, NX.v, IX.v, nadd, nsub]); omega) | skip
              show ints (nats (o :: out)) = ints (nats (orderL (j + 1) (List.range (j + 1)) perm.toNat))
              rw [x6]
end Go.Proofs.YtlgmbpnlakjefaaDoor
end

section
/- Contracts: words hidden; keys checked, undone, joined. -/
namespace Go.Proofs.YtlgmbpnlakjefaaDoor
open Go.Sy
set_option maxRecDepth 100000
set_option maxHeartbeats 1000000
set_option linter.unusedSimpArgs false
set_option linter.unusedVariables false
theorem _root_.Go.Sy.Br.f {b : Unit → Bool} {K L : Unit → Prop} (h1 : b () = true → False) (h2 : b () = false → L ()) : Br b K L := .mk (fun h => (h1 h).elim) h2
theorem _root_.Go.Sy.Br.t {b : Unit → Bool} {K L : Unit → Prop} (h1 : b () = true → K ()) (h2 : b () = false → False) : Br b K L := .mk h1 fun h => (h2 h).elim
structure KeyX where
  n : Nat
  perm : Int
  pad : Int
def KeyX.cells (k : KeyX) : List AV := [.int .i64 (.t fun _ => ofN k.n), .int .i64 (.t fun _ => k.perm), .int .u16 (.t fun _ => k.pad)]
def KeyX.ok (k : KeyX) : Prop := 1 ≤ k.n ∧ k.n ≤ 15 ∧ 0 ≤ k.perm ∧ k.perm.toNat < fact k.n ∧ 0 ≤ k.pad ∧ k.pad < ofN (2 ^ k.n)
theorem pow_le15 {n : Nat} (h : n ≤ 15) : 1 ≤ 2 ^ n ∧ 2 ^ n ≤ 32768 := by
  refine ⟨Nat.one_le_two_pow, ?_⟩
  have := Nat.pow_le_pow_right (show 0 < 2 by decide) h
  omega
theorem shl1 {n : Nat} (h : n ≤ 15) : aop (.shl .i64) 1 (ofN n) = ofN (2 ^ n) := by
  show IntKind.i64.wrap (1 * 2 ^ (min (ofN n).toNat IntKind.i64.bits)) = ofN (2 ^ n)
  rw [toNat_ofN, show IntKind.i64.bits = 64 from rfl, Nat.min_eq_left (by omega), Int.one_mul]
  have h2 := pow_le15 h
  have e : (2 : Int) ^ n = ofN (2 ^ n) := by simp only [ofN]; rw [Int.natCast_pow]; rfl
  rw [e]
  exact wrap64 (by simp only [ofN]; omega)
theorem fact_le15 {n : Nat} (h : n ≤ 15) : fact n ≤ 1307674368000 := Nat.le_trans (fact_le n 15 h) (by decide)
/-! ### Check -/
def cCheck : Con := con (fun k : KeyX => [.agg k.cells]) (fun _ => []) KeyX.ok (fun k K => K (.int .i64 (.l 0)) [])
theorem e11 : EnvOk Tryd.prog (env [(58, cFact)]) := envOk_cons envOk_nil s58 k58.callable
theorem s46 : Sound Tryd.prog 46 cCheck := by
  refine k46.con tabOk e11 mixed o46 fun x K hl h2 => ?_
  obtain ⟨n, perm, pad⟩ := x
  have hk : KeyX.ok ⟨n, perm, pad⟩ := hl
  have a1 : 1 ≤ n := hk.1
  have a2 : n ≤ 15 := hk.2.1
  have a3 : 0 ≤ perm := hk.2.2.1
  have a4 : perm.toNat < fact n := hk.2.2.2.1
  have a5 : 0 ≤ pad := hk.2.2.2.2.1
  have a6 : pad < ofN (2 ^ n) := hk.2.2.2.2.2
  have hp := pow_le15 a2
  have hf := fact_le15 a2
  have s1 := shl1 a2
  have s2 := ofN_nonneg n
  cbv
  clear hk hl
  generalize hF : fact n = F at a4 hf
  generalize hP : 2 ^ n = P at a6 hp s1
  refine Br.f (fun b1 => ?_) (fun b1 => ?_)
  · have this : ofN n < 1 := lt_t.1 b1
    simp only [ofN] at this; omega
  cbv
  refine Br.f (fun b2 => ?_) (fun b2 => ?_)
  · have this : 15 < ofN n := gt_t.1 b2
    simp only [ofN] at this; omega
  cbv
  refine Br.f (fun b3 => ?_) (fun b3 => ?_)
  · have this : perm < 0 := lt_t.1 b3
    omega
  cbv
  refine Chk.mk (by (try simp only [NX.v, IX.v, nadd, nsub, nmul, aop_add, aop_sub, aop_mul, toNat_ofN, ints_length, List.length_append, List.length_take, List.length_drop, List.length_replicate, List.length_cons, List.length_nil, List.length_map, maxBytes]); (try simp only [ofN]); omega) ?_
  cbv
  refine Br.f (fun b4 => ?_) (fun b4 => ?_)
  · have h : ofN (fact (ofN n).toNat) ≤ perm := ge_t.1 b4
    rw [toNat_ofN, hF] at h; simp only [ofN] at h; omega
  cbv
  refine Chk.mk (s2) ?_
  cbv
  refine Br.f (fun b5 => ?_) (fun b5 => ?_)
  · have h : aop (.shl .i64) 1 (ofN n) ≤ IntKind.i64.wrap pad := ge_t.1 b5
    simp only [ofN] at a6; rw [s1, wrap64 (by omega)] at h; simp only [ofN] at h; omega
  cbv
  refine .mk _ _ h2 ?_ ?_
  all_goals cbv
  all_goals repeat' first | apply And.intro | exact trivial | exact SameI.mk (by with_reducible rfl) | exact SameN.mk (by with_reducible rfl) | exact SameL.mk (by with_reducible rfl) | exact SameB.mk (by with_reducible rfl) | exact LeN.mk (by with_reducible exact Nat.le_refl _) | apply SameI.mk | apply SameN.mk | apply SameL.mk | apply SameB.mk | apply LeN.mk
  all_goals first | rfl | exact (ofN_succ _).symm | (simp only [toNat_ofN, NX.v, IX.v, Nat.le_refl]; done) | ((try simp only [toNat_ofN, NX.v, IX.v, nadd, nsub]); omega) | skip
/-! ### check -/
def cCheck2 : Con := con (fun x : KeyX × Int => [.agg x.1.cells, .int .u16 (.t fun _ => x.2)]) (fun _ => []) (fun x => x.1.ok ∧ 0 ≤ x.2 ∧ x.2 < ofN (2 ^ x.1.n)) (fun k K => K (.int .i64 (.l 0)) [])
theorem e12 : EnvOk Tryd.prog (env [(46, cCheck)]) := envOk_cons envOk_nil s46 k46.callable
theorem s35 : Sound Tryd.prog 35 cCheck2 := by
  refine k35.con tabOk e12 mixed o35 fun x K hl h2 => ?_
  obtain ⟨⟨n, perm, pad⟩, w⟩ := x
  have hk : KeyX.ok ⟨n, perm, pad⟩ := hl.1
  have h0 : 0 ≤ w := hl.2.1
  have h1 : w < ofN (2 ^ n) := hl.2.2
  have a2 : n ≤ 15 := hk.2.1
  have hp := pow_le15 a2
  have s1 := shl1 a2
  have s2 := ofN_nonneg n
  cbv
  refine ⟨⟨n, perm, pad⟩, hk, Ent.of_wvs ?_, trivial, ?_⟩
  · cbv
    repeat' first | apply And.intro | exact trivial | exact SameI.mk (by with_reducible rfl) | exact SameN.mk (by with_reducible rfl) | exact SameL.mk (by with_reducible rfl) | exact SameB.mk (by with_reducible rfl) | exact LeN.mk (by with_reducible exact Nat.le_refl _) | apply SameI.mk | apply SameN.mk | apply SameL.mk | apply SameB.mk | apply LeN.mk
    all_goals first | rfl | exact (ofN_succ _).symm | (simp only [toNat_ofN, NX.v, IX.v, Nat.le_refl]; done) | ((try simp only [toNat_ofN, NX.v, IX.v, nadd, nsub]); omega) | skip
  cbv
  refine Chk.mk (s2) ?_
  cbv
  clear hk hl
  generalize hP : 2 ^ n = P at h1 hp s1
  refine Br.f (fun b5 => ?_) (fun b5 => ?_)
  · have h : aop (.shl .i64) 1 (ofN n) ≤ IntKind.i64.wrap w := ge_t.1 b5
    simp only [ofN] at h1; rw [s1, wrap64 (by omega)] at h; simp only [ofN] at h; omega
  cbv
  refine .mk _ _ h2 ?_ ?_
  all_goals cbv
  all_goals repeat' first | apply And.intro | exact trivial | exact SameI.mk (by with_reducible rfl) | exact SameN.mk (by with_reducible rfl) | exact SameL.mk (by with_reducible rfl) | exact SameB.mk (by with_reducible rfl) | exact LeN.mk (by with_reducible exact Nat.le_refl _) | apply SameI.mk | apply SameN.mk | apply SameL.mk | apply SameB.mk | apply LeN.mk
  all_goals first | rfl | exact (ofN_succ _).symm | (simp only [toNat_ofN, NX.v, IX.v, Nat.le_refl]; done) | ((try simp only [toNat_ofN, NX.v, IX.v, nadd, nsub]); omega) | skip
/-! ### hide -/
theorem orderL_mem : ∀ (k : Nat) (left : List Nat) (p : Nat), left.length = k → p < fact k → ∀ v ∈ orderL k left p, v ∈ left
  | 0, _, _, _, _, v, hv => by simp [orderL] at hv
  | k + 1, left, p, hl, hp, v, hv => by
    have hfp := fact_pos k
    have hat : p / fact k < k + 1 := (Nat.div_lt_iff_lt_mul hfp).2 (by rw [Nat.mul_comm]; exact hp)
    simp only [orderL, List.mem_cons] at hv
    rcases hv with rfl | hv
    · rw [List.getD_eq_getElem?_getD, List.getElem?_eq_getElem (by omega)]
      exact List.getElem_mem _
    · exact List.mem_of_mem_eraseIdx (orderL_mem k _ _ (by rw [List.length_eraseIdx]; simp [show p / fact k < left.length from by omega]; omega) (Nat.mod_lt _ hfp) v hv)
theorem ordI_length (n : Nat) (p : Int) : (ordI n p).length = n := by simp [ordI, nats_length, orderL_length]
theorem ordI_range {n : Nat} {p : Int} (hp : p.toNat < fact n) {i : Nat} (hi : i < n) : 0 ≤ (ordI n p).getD i 0 ∧ (ordI n p).getD i 0 < ofN n := by
  have hl := orderL_length n (List.range n) p.toNat
  have hm := orderL_mem n (List.range n) p.toNat (by simp) hp ((orderL n (List.range n) p.toNat)[i]'(by omega)) (List.getElem_mem _)
  rw [List.mem_range] at hm
  have e : (ordI n p).getD i 0 = ofN ((orderL n (List.range n) p.toNat)[i]'(by omega)) := by
    simp [ordI, nats, List.getD_eq_getElem?_getD, hl, hi]
  rw [e]
  simp only [ofN]
  omega
theorem bitsL_length (n : Nat) (w : Int) : (bitsL n w).length = n := bitsTo_length _ _ _
theorem pickL_length (l o : List Int) : (pickL l o).length = o.length := fillTo_length _ _ _
def hideI (k : KeyX) (w : Int) : Int := aop (.bits .xor .u16) (wordTo (pickL (bitsL k.n w) (ordI k.n k.perm)) k.n) k.pad
def cHide0 : Con := con (fun x : KeyX × Int => [.agg x.1.cells, .int .u16 (.t fun _ => x.2)]) (fun _ => []) (fun x => x.1.ok) (fun x K => K (.int .u16 (.t fun _ => hideI x.1 x.2)) [])
theorem e13 : EnvOk Tryd.prog (env [(49, cBits), (50, cOrder), (48, cPick .u16), (47, cWord)]) :=
  envOk_cons (envOk_cons (envOk_cons (envOk_cons envOk_nil s47 k47.callable) s48 k48.callable) s50 k50.callable) s49 k49.callable
theorem s36 : Sound Tryd.prog 36 cHide0 := by
  refine k36.con tabOk e13 mixed o36 fun x K hl h2 => ?_
  obtain ⟨⟨n, perm, pad⟩, w⟩ := x
  have hk : KeyX.ok ⟨n, perm, pad⟩ := hl
  have a1 : 1 ≤ n := hk.1
  have a2 : n ≤ 15 := hk.2.1
  have a3 : 0 ≤ perm := hk.2.2.1
  have a4 : perm.toNat < fact n := hk.2.2.2.1
  have a5 : 0 ≤ pad := hk.2.2.2.2.1
  have a6 : pad < ofN (2 ^ n) := hk.2.2.2.2.2
  cbv
  refine ⟨(n, w), Nat.le_trans a2 (by decide), Ent.of_wvs ?_, trivial, ?_⟩
  · cbv
    repeat' first | apply And.intro | exact trivial | exact SameI.mk (by with_reducible rfl) | exact SameN.mk (by with_reducible rfl) | exact SameL.mk (by with_reducible rfl) | exact SameB.mk (by with_reducible rfl) | exact LeN.mk (by with_reducible exact Nat.le_refl _) | apply SameI.mk | apply SameN.mk | apply SameL.mk | apply SameB.mk | apply LeN.mk
    all_goals first | rfl | exact (ofN_succ _).symm | (simp only [toNat_ofN, NX.v, IX.v, Nat.le_refl]; done) | ((try simp only [toNat_ofN, NX.v, IX.v, nadd, nsub]); omega) | skip
  cbv
  refine ⟨(n, perm, pad), ⟨a1, a2, a3, a4⟩, Ent.of_wvs ?_, trivial, ?_⟩
  · cbv
    repeat' first | apply And.intro | exact trivial | exact SameI.mk (by with_reducible rfl) | exact SameN.mk (by with_reducible rfl) | exact SameL.mk (by with_reducible rfl) | exact SameB.mk (by with_reducible rfl) | exact LeN.mk (by with_reducible exact Nat.le_refl _) | apply SameI.mk | apply SameN.mk | apply SameL.mk | apply SameB.mk | apply LeN.mk
    all_goals first | rfl | exact (ofN_succ _).symm | (simp only [toNat_ofN, NX.v, IX.v, Nat.le_refl]; done) | ((try simp only [toNat_ofN, NX.v, IX.v, nadd, nsub]); omega) | skip
  cbv
  refine ⟨(bitsL n w, ordI n perm), ?_, Ent.of_wvs ?_, ?_, ?_⟩
  · dsimp only
    rw [ordI_length, bitsL_length]
    exact ⟨Nat.le_trans a2 (by decide), fun i hi => ordI_range a4 hi⟩
  · cbv
    repeat' first | apply And.intro | exact trivial | exact SameI.mk (by with_reducible rfl) | exact SameN.mk (by with_reducible rfl) | exact SameL.mk (by with_reducible rfl) | exact SameB.mk (by with_reducible rfl) | exact LeN.mk (by with_reducible exact Nat.le_refl _) | apply SameI.mk | apply SameN.mk | apply SameL.mk | apply SameB.mk | apply LeN.mk
    all_goals first | rfl | exact (ofN_succ _).symm | (simp only [toNat_ofN, NX.v, IX.v, Nat.le_refl]; done) | ((try simp only [toNat_ofN, NX.v, IX.v, nadd, nsub]); omega) | skip
    all_goals simp only [NX.v, bitsL_length, ordI_length, Nat.le_refl]
  · cbv
    repeat' first | apply And.intro | exact trivial | exact SameI.mk (by with_reducible rfl) | exact SameN.mk (by with_reducible rfl) | exact SameL.mk (by with_reducible rfl) | exact SameB.mk (by with_reducible rfl) | exact LeN.mk (by with_reducible exact Nat.le_refl _) | apply SameI.mk | apply SameN.mk | apply SameL.mk | apply SameB.mk | apply LeN.mk
    all_goals first | rfl | exact (ofN_succ _).symm | (simp only [toNat_ofN, NX.v, IX.v, Nat.le_refl]; done) | ((try simp only [toNat_ofN, NX.v, IX.v, nadd, nsub]); omega) | skip
  cbv
  refine ⟨pickL (bitsL n w) (ordI n perm), ?_, Ent.of_wvs ?_, ?_, ?_⟩
  · rw [pickL_length, ordI_length]; exact Nat.le_trans a2 (by decide)
  · cbv
    repeat' first | apply And.intro | exact trivial | exact SameI.mk (by with_reducible rfl) | exact SameN.mk (by with_reducible rfl) | exact SameL.mk (by with_reducible rfl) | exact SameB.mk (by with_reducible rfl) | exact LeN.mk (by with_reducible exact Nat.le_refl _) | apply SameI.mk | apply SameN.mk | apply SameL.mk | apply SameB.mk | apply LeN.mk
    all_goals first | rfl | exact (ofN_succ _).symm | (simp only [toNat_ofN, NX.v, IX.v, Nat.le_refl]; done) | ((try simp only [toNat_ofN, NX.v, IX.v, nadd, nsub]); omega) | skip
    all_goals simp only [NX.v, pickL_length, ordI_length, Nat.le_refl]
  · cbv
    repeat' first | apply And.intro | exact trivial | exact SameI.mk (by with_reducible rfl) | exact SameN.mk (by with_reducible rfl) | exact SameL.mk (by with_reducible rfl) | exact SameB.mk (by with_reducible rfl) | exact LeN.mk (by with_reducible exact Nat.le_refl _) | apply SameI.mk | apply SameN.mk | apply SameL.mk | apply SameB.mk | apply LeN.mk
    all_goals first | rfl | exact (ofN_succ _).symm | (simp only [toNat_ofN, NX.v, IX.v, Nat.le_refl]; done) | ((try simp only [toNat_ofN, NX.v, IX.v, nadd, nsub]); omega) | skip
  cbv
  refine .mk _ _ h2 ?_ ?_
  all_goals cbv
  all_goals repeat' first | apply And.intro | exact trivial | exact SameI.mk (by with_reducible rfl) | exact SameN.mk (by with_reducible rfl) | exact SameL.mk (by with_reducible rfl) | exact SameB.mk (by with_reducible rfl) | exact LeN.mk (by with_reducible exact Nat.le_refl _) | apply SameI.mk | apply SameN.mk | apply SameL.mk | apply SameB.mk | apply LeN.mk
  all_goals first | rfl | exact (ofN_succ _).symm | (simp only [toNat_ofN, NX.v, IX.v, Nat.le_refl]; done) | ((try simp only [toNat_ofN, NX.v, IX.v, nadd, nsub]); omega) | skip
  show aop (.bits .xor .u16) (wordTo (pickL (bitsL n w) (ordI n perm)) (pickL (bitsL n w) (ordI n perm)).length) pad = hideI ⟨n, perm, pad⟩ w
  rw [pickL_length, ordI_length]; rfl
/-! ### Hide -/
def cHide : Con := con (fun x : KeyX × Int => [.agg x.1.cells, .int .u16 (.t fun _ => x.2)]) (fun _ => []) (fun x => x.1.ok ∧ 0 ≤ x.2 ∧ x.2 < ofN (2 ^ x.1.n)) (fun x K => K (.tuple [.int .u16 (.t fun _ => hideI x.1 x.2), .int .i64 (.l 0)]) [])
theorem e14 : EnvOk Tryd.prog (env [(35, cCheck2), (36, cHide0)]) := envOk_cons (envOk_cons envOk_nil s36 k36.callable) s35 k35.callable
theorem s20 : Sound Tryd.prog 20 cHide := by
  refine k20.con tabOk e14 mixed o20 fun x K hl h2 => ?_
  obtain ⟨⟨n, perm, pad⟩, w⟩ := x
  cbv
  refine ⟨(⟨n, perm, pad⟩, w), hl, Ent.of_wvs ?_, trivial, ?_⟩
  · cbv
    repeat' first | apply And.intro | exact trivial | exact SameI.mk (by with_reducible rfl) | exact SameN.mk (by with_reducible rfl) | exact SameL.mk (by with_reducible rfl) | exact SameB.mk (by with_reducible rfl) | exact LeN.mk (by with_reducible exact Nat.le_refl _) | apply SameI.mk | apply SameN.mk | apply SameL.mk | apply SameB.mk | apply LeN.mk
    all_goals first | rfl | exact (ofN_succ _).symm | (simp only [toNat_ofN, NX.v, IX.v, Nat.le_refl]; done) | ((try simp only [toNat_ofN, NX.v, IX.v, nadd, nsub]); omega) | skip
  cbv
  refine ⟨(⟨n, perm, pad⟩, w), hl.1, Ent.of_wvs ?_, trivial, ?_⟩
  · cbv
    repeat' first | apply And.intro | exact trivial | exact SameI.mk (by with_reducible rfl) | exact SameN.mk (by with_reducible rfl) | exact SameL.mk (by with_reducible rfl) | exact SameB.mk (by with_reducible rfl) | exact LeN.mk (by with_reducible exact Nat.le_refl _) | apply SameI.mk | apply SameN.mk | apply SameL.mk | apply SameB.mk | apply LeN.mk
    all_goals first | rfl | exact (ofN_succ _).symm | (simp only [toNat_ofN, NX.v, IX.v, Nat.le_refl]; done) | ((try simp only [toNat_ofN, NX.v, IX.v, nadd, nsub]); omega) | skip
  cbv
  refine .mk _ _ h2 ?_ ?_
  all_goals cbv
  all_goals repeat' first | apply And.intro | exact trivial | exact SameI.mk (by with_reducible rfl) | exact SameN.mk (by with_reducible rfl) | exact SameL.mk (by with_reducible rfl) | exact SameB.mk (by with_reducible rfl) | exact LeN.mk (by with_reducible exact Nat.le_refl _) | apply SameI.mk | apply SameN.mk | apply SameL.mk | apply SameB.mk | apply LeN.mk
  all_goals first | rfl | exact (ofN_succ _).symm | (simp only [toNat_ofN, NX.v, IX.v, Nat.le_refl]; done) | ((try simp only [toNat_ofN, NX.v, IX.v, nadd, nsub]); omega) | skip
/-! ### two keys -/
def cBoth : Con := con (fun x : KeyX × KeyX => [.agg x.1.cells, .agg x.2.cells]) (fun _ => []) (fun x => x.1.ok ∧ x.2.ok ∧ x.1.n = x.2.n) (fun x K => K (.int .i64 (.l 0)) [])
def compI (a b : KeyX) : KeyX := ⟨a.n, ofN (numTo (pickL (ordI a.n a.perm) (ordI a.n b.perm)) a.n), hideI b a.pad⟩
def invL (k : KeyX) : List Int := invTo (ordI k.n k.perm) k.n
def invI (k : KeyX) : KeyX := ⟨k.n, ofN (numTo (invL k) k.n), wordTo (pickL (bitsL k.n k.pad) (invL k)) k.n⟩
def cCompose : Con := con (fun x : KeyX × KeyX => [.agg x.1.cells, .agg x.2.cells]) (fun _ => []) (fun x => x.1.ok ∧ x.2.ok ∧ x.1.n = x.2.n)
  (fun x K => K (.agg [.int .i64 (.t fun _ => ofN x.1.n), .int .i64 (.t fun _ => ofN (numTo (pickL (ordI x.1.n x.1.perm) (ordI x.1.n x.2.perm)) x.1.n)), .int .u16 (.t fun _ => hideI x.2 x.1.pad)]) [])
theorem e16 : EnvOk Tryd.prog (env [(50, cOrder), (51, cInverse), (52, cNumber), (49, cBits), (48, cPick .u16), (47, cWord)]) :=
  envOk_cons (envOk_cons (envOk_cons (envOk_cons (envOk_cons (envOk_cons envOk_nil s47 k47.callable) s48 k48.callable) s49 k49.callable) s52 k52.callable) s51 k51.callable) s50 k50.callable
def cInvert : Con := con (fun k : KeyX => [.agg k.cells]) (fun _ => []) KeyX.ok
  (fun k K => K (.agg [.int .i64 (.t fun _ => ofN k.n), .int .i64 (.t fun _ => ofN (numTo (invL k) k.n)), .int .u16 (.t fun _ => wordTo (pickL (bitsL k.n k.pad) (invL k)) k.n)]) [])
theorem invL_length (k : KeyX) : (invL k).length = k.n := by simp only [invL, invTo_length, ordI_length]
theorem invTo_range (l : List Int) (hl : 0 < l.length) : ∀ (i : Nat), i ≤ l.length → ∀ v ∈ invTo l i, 0 ≤ v ∧ v < ofN l.length
  | 0, _, v, hv => by
    simp only [invTo, List.mem_replicate] at hv
    rw [hv.2]; simp only [ofN]; omega
  | i + 1, hi, v, hv => by
    simp only [invTo] at hv
    rcases List.mem_or_eq_of_mem_set hv with h | h
    · exact invTo_range l hl i (by omega) v h
    · rw [h]; simp only [ofN]; omega
theorem invL_range {k : KeyX} (hk : 1 ≤ k.n) {i : Nat} (hi : i < k.n) : 0 ≤ (invL k).getD i 0 ∧ (invL k).getD i 0 < ofN k.n := by
  have hl := invL_length k
  have h := invTo_range (ordI k.n k.perm) (by rw [ordI_length]; omega) k.n (by rw [ordI_length]; exact Nat.le_refl _) ((invL k)[i]'(by omega)) (List.getElem_mem _)
  rw [ordI_length] at h
  rw [List.getD_eq_getElem?_getD, List.getElem?_eq_getElem (by omega)]
  exact h
theorem s37 : Sound Tryd.prog 37 cInvert := by
  refine k37.con tabOk e16 mixed o37 fun x K hl h2 => ?_
  obtain ⟨n, perm, pad⟩ := x
  have ha : KeyX.ok ⟨n, perm, pad⟩ := hl
  have a2 : n ≤ 15 := ha.2.1
  have li : (invL ⟨n, perm, pad⟩).length = n := invL_length _
  cbv
  refine ⟨(n, perm, pad), ⟨ha.1, ha.2.1, ha.2.2.1, ha.2.2.2.1⟩, Ent.of_wvs ?_, trivial, ?_⟩
  · cbv
    repeat' first | apply And.intro | exact trivial | exact SameI.mk (by with_reducible rfl) | exact SameN.mk (by with_reducible rfl) | exact SameL.mk (by with_reducible rfl) | exact SameB.mk (by with_reducible rfl) | exact LeN.mk (by with_reducible exact Nat.le_refl _) | apply SameI.mk | apply SameN.mk | apply SameL.mk | apply SameB.mk | apply LeN.mk
    all_goals first | rfl | exact (ofN_succ _).symm | (simp only [toNat_ofN, NX.v, IX.v, Nat.le_refl]; done) | ((try simp only [toNat_ofN, NX.v, IX.v, nadd, nsub]); omega) | skip
  cbv
  refine ⟨ordI n perm, ?_, Ent.of_wvs ?_, ?_, ?_⟩
  · rw [ordI_length]
    exact ⟨Nat.le_trans a2 (by decide), fun i hi => ordI_range ha.2.2.2.1 hi⟩
  · cbv
    repeat' first | apply And.intro | exact trivial | exact SameI.mk (by with_reducible rfl) | exact SameN.mk (by with_reducible rfl) | exact SameL.mk (by with_reducible rfl) | exact SameB.mk (by with_reducible rfl) | exact LeN.mk (by with_reducible exact Nat.le_refl _) | apply SameI.mk | apply SameN.mk | apply SameL.mk | apply SameB.mk | apply LeN.mk
    all_goals first | rfl | exact (ofN_succ _).symm | (simp only [toNat_ofN, NX.v, IX.v, Nat.le_refl]; done) | ((try simp only [toNat_ofN, NX.v, IX.v, nadd, nsub]); omega) | skip
    all_goals simp only [NX.v, ordI_length, Nat.le_refl]
  · cbv
    repeat' first | apply And.intro | exact trivial | exact SameI.mk (by with_reducible rfl) | exact SameN.mk (by with_reducible rfl) | exact SameL.mk (by with_reducible rfl) | exact SameB.mk (by with_reducible rfl) | exact LeN.mk (by with_reducible exact Nat.le_refl _) | apply SameI.mk | apply SameN.mk | apply SameL.mk | apply SameB.mk | apply LeN.mk
    all_goals first | rfl | exact (ofN_succ _).symm | (simp only [toNat_ofN, NX.v, IX.v, Nat.le_refl]; done) | ((try simp only [toNat_ofN, NX.v, IX.v, nadd, nsub]); omega) | skip
  cbv
  refine ⟨invL ⟨n, perm, pad⟩, ?_, Ent.of_wvs ?_, ?_, ?_⟩
  · rw [li]; exact a2
  · cbv
    repeat' first | apply And.intro | exact trivial | exact SameI.mk (by with_reducible rfl) | exact SameN.mk (by with_reducible rfl) | exact SameL.mk (by with_reducible rfl) | exact SameB.mk (by with_reducible rfl) | exact LeN.mk (by with_reducible exact Nat.le_refl _) | apply SameI.mk | apply SameN.mk | apply SameL.mk | apply SameB.mk | apply LeN.mk
    all_goals first | rfl | exact (ofN_succ _).symm | (simp only [toNat_ofN, NX.v, IX.v, Nat.le_refl]; done) | ((try simp only [toNat_ofN, NX.v, IX.v, nadd, nsub]); omega) | skip
    all_goals simp only [NX.v, li, ordI_length, Nat.le_refl]
  · cbv
    repeat' first | apply And.intro | exact trivial | exact SameI.mk (by with_reducible rfl) | exact SameN.mk (by with_reducible rfl) | exact SameL.mk (by with_reducible rfl) | exact SameB.mk (by with_reducible rfl) | exact LeN.mk (by with_reducible exact Nat.le_refl _) | apply SameI.mk | apply SameN.mk | apply SameL.mk | apply SameB.mk | apply LeN.mk
    all_goals first | rfl | exact (ofN_succ _).symm | (simp only [toNat_ofN, NX.v, IX.v, Nat.le_refl]; done) | ((try simp only [toNat_ofN, NX.v, IX.v, nadd, nsub]); omega) | skip
    show ints (invTo (ordI n perm) (ordI n perm).length) = ints (invTo (ordI n perm) n)
    rw [ordI_length]
  cbv
  refine ⟨(n, pad), Nat.le_trans a2 (by decide), Ent.of_wvs ?_, trivial, ?_⟩
  · cbv
    repeat' first | apply And.intro | exact trivial | exact SameI.mk (by with_reducible rfl) | exact SameN.mk (by with_reducible rfl) | exact SameL.mk (by with_reducible rfl) | exact SameB.mk (by with_reducible rfl) | exact LeN.mk (by with_reducible exact Nat.le_refl _) | apply SameI.mk | apply SameN.mk | apply SameL.mk | apply SameB.mk | apply LeN.mk
    all_goals first | rfl | exact (ofN_succ _).symm | (simp only [toNat_ofN, NX.v, IX.v, Nat.le_refl]; done) | ((try simp only [toNat_ofN, NX.v, IX.v, nadd, nsub]); omega) | skip
  cbv
  refine ⟨(bitsL n pad, invL ⟨n, perm, pad⟩), ?_, Ent.of_wvs ?_, ?_, ?_⟩
  · dsimp only
    rw [bitsL_length, li]
    exact ⟨Nat.le_trans a2 (by decide), fun i hi => invL_range (k := ⟨n, perm, pad⟩) ha.1 hi⟩
  · cbv
    repeat' first | apply And.intro | exact trivial | exact SameI.mk (by with_reducible rfl) | exact SameN.mk (by with_reducible rfl) | exact SameL.mk (by with_reducible rfl) | exact SameB.mk (by with_reducible rfl) | exact LeN.mk (by with_reducible exact Nat.le_refl _) | apply SameI.mk | apply SameN.mk | apply SameL.mk | apply SameB.mk | apply LeN.mk
    all_goals first | rfl | exact (ofN_succ _).symm | (simp only [toNat_ofN, NX.v, IX.v, Nat.le_refl]; done) | ((try simp only [toNat_ofN, NX.v, IX.v, nadd, nsub]); omega) | skip
    all_goals simp only [NX.v, li, bitsL_length, ordI_length, Nat.le_refl]
  · cbv
    repeat' first | apply And.intro | exact trivial | exact SameI.mk (by with_reducible rfl) | exact SameN.mk (by with_reducible rfl) | exact SameL.mk (by with_reducible rfl) | exact SameB.mk (by with_reducible rfl) | exact LeN.mk (by with_reducible exact Nat.le_refl _) | apply SameI.mk | apply SameN.mk | apply SameL.mk | apply SameB.mk | apply LeN.mk
    all_goals first | rfl | exact (ofN_succ _).symm | (simp only [toNat_ofN, NX.v, IX.v, Nat.le_refl]; done) | ((try simp only [toNat_ofN, NX.v, IX.v, nadd, nsub]); omega) | skip
  cbv
  refine ⟨pickL (bitsL n pad) (invL ⟨n, perm, pad⟩), ?_, Ent.of_wvs ?_, ?_, ?_⟩
  · rw [pickL_length, li]; exact Nat.le_trans a2 (by decide)
  · cbv
    repeat' first | apply And.intro | exact trivial | exact SameI.mk (by with_reducible rfl) | exact SameN.mk (by with_reducible rfl) | exact SameL.mk (by with_reducible rfl) | exact SameB.mk (by with_reducible rfl) | exact LeN.mk (by with_reducible exact Nat.le_refl _) | apply SameI.mk | apply SameN.mk | apply SameL.mk | apply SameB.mk | apply LeN.mk
    all_goals first | rfl | exact (ofN_succ _).symm | (simp only [toNat_ofN, NX.v, IX.v, Nat.le_refl]; done) | ((try simp only [toNat_ofN, NX.v, IX.v, nadd, nsub]); omega) | skip
    all_goals simp only [NX.v, pickL_length, li, Nat.le_refl]
  · cbv
    repeat' first | apply And.intro | exact trivial | exact SameI.mk (by with_reducible rfl) | exact SameN.mk (by with_reducible rfl) | exact SameL.mk (by with_reducible rfl) | exact SameB.mk (by with_reducible rfl) | exact LeN.mk (by with_reducible exact Nat.le_refl _) | apply SameI.mk | apply SameN.mk | apply SameL.mk | apply SameB.mk | apply LeN.mk
    all_goals first | rfl | exact (ofN_succ _).symm | (simp only [toNat_ofN, NX.v, IX.v, Nat.le_refl]; done) | ((try simp only [toNat_ofN, NX.v, IX.v, nadd, nsub]); omega) | skip
  cbv
  refine .mk _ _ h2 ?_ ?_
  all_goals cbv
  all_goals repeat' first | apply And.intro | exact trivial | exact SameI.mk (by with_reducible rfl) | exact SameN.mk (by with_reducible rfl) | exact SameL.mk (by with_reducible rfl) | exact SameB.mk (by with_reducible rfl) | exact LeN.mk (by with_reducible exact Nat.le_refl _) | apply SameI.mk | apply SameN.mk | apply SameL.mk | apply SameB.mk | apply LeN.mk
  all_goals first | rfl | exact (ofN_succ _).symm | (simp only [toNat_ofN, NX.v, IX.v, Nat.le_refl]; done) | ((try simp only [toNat_ofN, NX.v, IX.v, nadd, nsub]); omega) | skip
  · show ofN (numTo (invL ⟨n, perm, pad⟩) (invL ⟨n, perm, pad⟩).length) = ofN (numTo (invL ⟨n, perm, pad⟩) n)
    rw [li]
  · show wordTo (pickL (bitsL n pad) (invL ⟨n, perm, pad⟩)) (pickL (bitsL n pad) (invL ⟨n, perm, pad⟩)).length = wordTo (pickL (bitsL n pad) (invL ⟨n, perm, pad⟩)) n
    rw [pickL_length, li]
end Go.Proofs.YtlgmbpnlakjefaaDoor
end

section
/- Plain law: words of 15 bits and their bits; orders and their numbers. -/
namespace Go.Proofs.YtlgmbpnlakjefaaDoor
open Go.Sy
set_option maxRecDepth 100000
set_option maxHeartbeats 1000000
set_option linter.unusedSimpArgs false
set_option linter.unusedVariables false
theorem wrap_u16 {n : Nat} (h : n < 65536) : IntKind.u16.wrap (n : Int) = ofN n := wrap_inR (by simp [inR, IntKind.min, IntKind.max, IntKind.signed, IntKind.bits]; omega)
theorem or16 {a b : Nat} (ha : a < 65536) (hb : b < 65536) : aop (.bits .or .u16) (ofN a) (ofN b) = ofN (a ||| b) := by
  show IntKind.u16.wrap ((BitVec.ofInt 16 (a : Int) ||| BitVec.ofInt 16 (b : Int)).toNat : Int) = _
  rw [BitVec.ofInt_natCast, BitVec.ofInt_natCast, BitVec.toNat_or, BitVec.toNat_ofNat, BitVec.toNat_ofNat, Nat.mod_eq_of_lt (by omega), Nat.mod_eq_of_lt (by omega)]
  exact wrap_u16 (Nat.or_lt_two_pow (n := 16) ha hb)
theorem and16 {a b : Nat} (ha : a < 65536) (hb : b < 65536) : aop (.bits .and .u16) (ofN a) (ofN b) = ofN (a &&& b) := by
  show IntKind.u16.wrap ((BitVec.ofInt 16 (a : Int) &&& BitVec.ofInt 16 (b : Int)).toNat : Int) = _
  rw [BitVec.ofInt_natCast, BitVec.ofInt_natCast, BitVec.toNat_and, BitVec.toNat_ofNat, BitVec.toNat_ofNat, Nat.mod_eq_of_lt (by omega), Nat.mod_eq_of_lt (by omega)]
  exact wrap_u16 (Nat.lt_of_le_of_lt Nat.and_le_left ha)
theorem xor16 {a b : Nat} (ha : a < 65536) (hb : b < 65536) : aop (.bits .xor .u16) (ofN a) (ofN b) = ofN (a ^^^ b) := by
  show IntKind.u16.wrap ((BitVec.ofInt 16 (a : Int) ^^^ BitVec.ofInt 16 (b : Int)).toNat : Int) = _
  rw [BitVec.ofInt_natCast, BitVec.ofInt_natCast, BitVec.toNat_xor, BitVec.toNat_ofNat, BitVec.toNat_ofNat, Nat.mod_eq_of_lt (by omega), Nat.mod_eq_of_lt (by omega)]
  exact wrap_u16 (Nat.xor_lt_two_pow (n := 16) ha hb)
theorem shr16 {a i : Nat} (hi : i ≤ 16) : aop (.shr .u16) (ofN a) (ofN i) = ofN (a / 2 ^ i) := by
  show (ofN a).fdiv (2 ^ (min (ofN i).toNat 16)) = _
  rw [toNat_ofN, Nat.min_eq_left hi]
  simp only [ofN]
  rw [show (2 : Int) ^ i = ((2 ^ i : Nat) : Int) by simp, Int.natCast_ediv, Int.fdiv_eq_ediv_of_nonneg _ (Int.natCast_nonneg _)]
theorem shl16 {a i : Nat} (hi : i ≤ 16) (h : a * 2 ^ i < 65536) : aop (.shl .u16) (ofN a) (ofN i) = ofN (a * 2 ^ i) := by
  show IntKind.u16.wrap (ofN a * 2 ^ (min (ofN i).toNat 16)) = _
  rw [toNat_ofN, Nat.min_eq_left hi]
  simp only [ofN]
  rw [show (2 : Int) ^ i = ((2 ^ i : Nat) : Int) by simp, ← Int.natCast_mul]
  exact wrap_u16 h
/-- the word of some bits -/
def wN (f : Nat → Bool) : Nat → Nat
  | 0 => 0
  | i + 1 => wN f i ||| ((f i).toNat * 2 ^ i)
theorem wN_lt (f : Nat → Bool) : ∀ n, wN f n < 2 ^ n
  | 0 => by simp [wN]
  | n + 1 => by
    refine Nat.or_lt_two_pow (Nat.lt_of_lt_of_le (wN_lt f n) (Nat.pow_le_pow_right (by decide) (by omega))) ?_
    cases f n
    · simp [Nat.two_pow_pos]
    · simp [Nat.pow_succ]; have := Nat.two_pow_pos n; omega
theorem wN_bit (f : Nat → Bool) (n i : Nat) : (wN f n).testBit i = (decide (i < n) && f i) := by
  induction n with
  | zero => simp [wN]
  | succ n ih =>
    simp only [wN, Nat.testBit_or, ih]
    have h : ((f n).toNat * 2 ^ n).testBit i = (decide (i = n) && f n) := by
      cases hf : f n
      · simp
      · simp only [Bool.toNat_true, Nat.one_mul, Bool.and_true]
        rw [Nat.testBit_two_pow]; simp [eq_comm]
    rw [h]
    by_cases e : i = n
    · subst e; simp
    · by_cases e2 : i < n
      · simp [e, e2, show i < n + 1 from by omega]
      · simp [e, e2, show ¬ i < n + 1 from by omega]
/-- a bit as a number -/
theorem bit16_eq {w i : Nat} (hw : w < 65536) (hi : i ≤ 16) : bit16 (ofN w) i = ofN (w.testBit i).toNat := by
  unfold bit16
  have h1 : w / 2 ^ i < 65536 := Nat.lt_of_le_of_lt (Nat.div_le_self _ _) hw
  rw [shr16 hi, show (1 : Int) = ofN 1 from rfl, and16 h1 (by decide)]
  rw [Nat.and_one_is_mod, Nat.testBit_eq_decide_div_mod_eq]
  have := Nat.mod_two_eq_zero_or_one (w / 2 ^ i)
  rcases this with h | h <;> rw [h] <;> rfl
/-- a word of numbers that are bits -/
theorem wordTo_eq {l : List Int} {f : Nat → Bool} : ∀ {n : Nat}, n ≤ 16 → (∀ i, i < n → l.getD i 0 = ofN (f i).toNat) → wordTo l n = ofN (wN f n)
  | 0, _, _ => rfl
  | n + 1, hn, h => by
    have ih := wordTo_eq (n := n) (by omega) fun i hi => h i (by omega)
    have hb : (f n).toNat * 2 ^ n < 65536 := by
      have h1 : 2 ^ n ≤ 2 ^ 15 := Nat.pow_le_pow_right (by decide) (by omega)
      cases f n <;> simp <;> omega
    simp only [wordTo, wN]
    rw [ih, h n (by omega), shl16 (by omega) hb]
    exact or16 (Nat.lt_of_lt_of_le (wN_lt f n) (Nat.pow_le_pow_right (by decide) (show n ≤ 16 by omega))) hb
theorem fillTo_get {n : Nat} {f : Nat → Int} {i : Nat} (hi : i < n) : (fillTo n f n).getD i 0 = f i := by simp [fillTo, List.getD_eq_getElem?_getD, hi]
theorem pickL_get {l o : List Int} {i : Nat} (hi : i < o.length) : (pickL l o).getD i 0 = l.getD (o.getD i 0).toNat 0 := fillTo_get hi
theorem bitsL_get {n : Nat} {w : Int} {i : Nat} (hi : i < n) : (bitsL n w).getD i 0 = bit16 w i := by simp [bitsL, bitsTo, List.getD_eq_getElem?_getD, hi]
/-- the bits of a word, picked and put together -/
theorem picked {n w : Nat} {o : List Int} {s : Nat → Nat} (hn : n ≤ 16) (hw : w < 65536) (hl : o.length = n) (ho : ∀ i, i < n → o.getD i 0 = ofN (s i)) (hs : ∀ i, i < n → s i < n) :
    wordTo (pickL (bitsL n (ofN w)) o) n = ofN (wN (fun i => w.testBit (s i)) n) := by
  refine wordTo_eq hn fun i hi => ?_
  rw [pickL_get (by omega), ho i hi, toNat_ofN, bitsL_get (hs i hi), bit16_eq hw (by have := hs i hi; omega)]
/-- the places of a list of numbers -/
def at0 (l : List Int) (i : Nat) : Nat := (l.getD i 0).toNat
theorem at0_of {l : List Int} {i : Nat} (h : 0 ≤ l.getD i 0) : l.getD i 0 = ofN (at0 l i) := by simp only [at0, ofN]; omega
theorem ofN_of {a : Int} (h : 0 ≤ a) : a = ofN a.toNat := by simp only [ofN]; omega
theorem inv_ok {k : KeyX} (hk : k.ok) : (invI k).ok := by
  have h1 := hk.2.1
  have h5 := hk.2.2.2.2.1
  have h6 := hk.2.2.2.2.2
  have hp := pow_le15 h1
  have hl := invL_length k
  refine ⟨hk.1, h1, ofN_nonneg _, ?_, ?_⟩
  · show (ofN (numTo (invL k) k.n)).toNat < fact k.n
    rw [toNat_ofN]
    have h := numTo_lt (invL k) k.n (by omega)
    rw [hl, Nat.sub_self] at h
    simp only [fact, Nat.mul_one] at h
    exact h
  · show 0 ≤ wordTo (pickL (bitsL k.n k.pad) (invL k)) k.n ∧ wordTo (pickL (bitsL k.n k.pad) (invL k)) k.n < ofN (2 ^ k.n)
    rw [ofN_of h5, picked (s := at0 (invL k)) (by omega) (by simp only [ofN] at h6; omega) hl (fun i hi => at0_of (invL_range hk.1 hi).1) (fun i hi => by
      have := invL_range hk.1 hi
      simp only [at0, ofN] at *; omega)]
    exact ⟨ofN_nonneg _, ofN_lt.2 (wN_lt _ _)⟩
end Go.Proofs.YtlgmbpnlakjefaaDoor
end
