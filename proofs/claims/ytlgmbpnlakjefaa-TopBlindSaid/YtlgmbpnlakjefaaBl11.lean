/- Contracts: an entry struck; the order of a key. -/
import Derived.Test.YtlgmbpnlakjefaaBl10
namespace Go.Proofs.Ytlgmbpnlakjefaa
open Go.Sy
set_option maxRecDepth 100000
set_option maxHeartbeats 1000000
set_option linter.unusedSimpArgs false
set_option linter.unusedVariables false
/-! ### Delete -/
theorem del_rows (l m : List Int) (a : Nat) (ha : a < l.length) :
    ((l ++ m).take a ++ ((l ++ m).drop (a + 1)).take (l.length - (a + 1)) ++ (l ++ m).drop (a + (l.length - (a + 1)))).take (l.length - 1) ++ List.replicate (l.length - (l.length - 1)) 0 ++
      ((l ++ m).take a ++ ((l ++ m).drop (a + 1)).take (l.length - (a + 1)) ++ (l ++ m).drop (a + (l.length - (a + 1)))).drop l.length = l.eraseIdx a ++ 0 :: m := by
  have h1 : (l ++ m).take a = l.take a := List.take_append_of_le_length (by omega)
  have h2 : ((l ++ m).drop (a + 1)).take (l.length - (a + 1)) = l.drop (a + 1) := by
    rw [List.drop_append_of_le_length (by omega)]
    exact List.take_left' (by simp)
  have h3 : l.take a ++ l.drop (a + 1) = l.eraseIdx a := (List.eraseIdx_eq_take_drop_succ l a).symm
  have h4 : (l.eraseIdx a).length = l.length - 1 := by rw [List.length_eraseIdx]; simp [ha]
  rw [h1, h2, h3, List.take_left' h4]
  have h5 : l.length - (l.length - 1) = 1 := by omega
  rw [h5, List.append_assoc]
  congr 1
  have h6 : (l.eraseIdx a ++ (l ++ m).drop (a + (l.length - (a + 1)))).drop l.length = m := by
    have e : l.length = (l.eraseIdx a).length + 1 := by omega
    rw [e, List.drop_append, ← e]
    have e3 : a + (l.length - (a + 1)) = l.length - 1 := by omega
    rw [e3, List.drop_drop, List.drop_eq_nil_of_le (by omega)]
    rw [show l.length - 1 + (l.length - (l.eraseIdx a).length) = l.length from by omega]
    simp
  rw [h6]; rfl
def cDelete : Con := con (fun x : List Int × List Int × Nat => [.sl 0 (.l 0) (.l 0) 1 (.t fun _ => x.1.length) (.t fun _ => x.1.length) false, .int .i64 (.t fun _ => ofN x.2.2), .int .i64 (.t fun _ => ofN x.2.2 + 1)]) (fun x => [some ⟨true, .rows [.int .i64] fun _ => ints (x.1 ++ x.2.1)⟩]) (fun x => x.1.length + x.2.1.length ≤ 1000 ∧ x.2.2 < x.1.length)
  (fun x K => K (.sl 0 (.l 0) (.l 0) 1 (.t fun _ => x.1.length - 1) (.t fun _ => x.1.length - 1) false) [some ⟨true, .rows [.int .i64] fun _ => ints (x.1.eraseIdx x.2.2 ++ (0 :: x.2.1))⟩])
theorem s102 : Sound Try.prog 102 cDelete := by
  refine k102.con tabOk envOk_nil mixed o102 fun x K hl h2 => ?_
  obtain ⟨l, m, a⟩ := x
  obtain ⟨hl, ha⟩ := hl
  dsimp only at hl ha h2 ⊢
  have a0 := ofN_nonneg a
  have e1 : (ofN a + 1).toNat = a + 1 := by simp only [ofN]; omega
  have elen : (ints (l ++ m)).length = l.length + m.length := by rw [ints_length]; simp
  cbv
  refine Chk.mk (ofN_nonneg _) ?_
  cbv
  refine Chk.mk ((by show 0 ≤ ofN a + 1; omega)) ?_
  cbv
  refine Chk.mk (a0) ?_
  cbv
  refine Chk.mk (Nat.le_of_eq (toNat_ofN _)) ?_
  cbv
  refine Chk.mk (by show (ofN a + 1).toNat ≤ (ofN l.length).toNat; rw [e1, toNat_ofN]; omega) ?_
  cbv
  refine Chk.mk (by show (ofN a).toNat ≤ (ofN a + 1).toNat; rw [e1, toNat_ofN]; omega) ?_
  cbv
  refine Br.mk (fun hb => ?_) (fun hb => ?_)
  · have := eq_t.1 hb; omega
  cbv
  refine Chk.mk (a0) ?_
  cbv
  refine Chk.mk (Nat.le_refl _) ?_
  cbv
  refine Chk.mk (by show (ofN a).toNat ≤ l.length; rw [toNat_ofN]; omega) ?_
  cbv
  refine Chk.mk ((by show 0 ≤ ofN a + 1; omega)) ?_
  cbv
  refine Chk.mk (Nat.le_refl _) ?_
  cbv
  refine Chk.mk (Nat.le_refl _) ?_
  cbv
  refine Chk.mk (by show (ofN a + 1).toNat ≤ l.length; omega) ?_
  cbv
  have e2 : nsub l.length (ofN a + 1).toNat = l.length - (a + 1) := by rw [e1]; rfl
  refine Chk.mk (by show nadd (ofN a + 1).toNat (nsub l.length (ofN a + 1).toNat) ≤ (ints (l ++ m)).length; rw [e1, elen]; simp only [nadd, nsub]; omega) ?_
  cbv
  refine Chk.mk (by show (ofN a).toNat ≤ (ints (l ++ m)).length; rw [toNat_ofN, elen]; omega) ?_
  cbv
  refine Chk.mk (by show ((ofN a).toNat + nsub l.length (ofN a + 1).toNat) * 8 ≤ maxBytes; rw [toNat_ofN, e2]; simp only [maxBytes]; omega) ?_
  cbv
  refine App.inplace rfl (by show (ofN a).toNat + nsub l.length (ofN a + 1).toNat ≤ l.length; rw [toNat_ofN, e2]; omega) ?_
  cbv
  refine Chk.mk (by (try simp only [NX.v, IX.v, nadd, nsub, nmul, aop_add, aop_sub, aop_mul, toNat_ofN, ints_length, List.length_append, List.length_take, List.length_drop, List.length_replicate, List.length_cons, List.length_nil, List.length_map, maxBytes]); (try simp only [ofN]); omega) ?_
  cbv
  refine Chk.mk (by (try simp only [NX.v, IX.v, nadd, nsub, nmul, aop_add, aop_sub, aop_mul, toNat_ofN, ints_length, List.length_append, List.length_take, List.length_drop, List.length_replicate, List.length_cons, List.length_nil, List.length_map, maxBytes]); (try simp only [ofN]); omega) ?_
  cbv
  refine Chk.mk (by (try simp only [NX.v, IX.v, nadd, nsub, nmul, aop_add, aop_sub, aop_mul, toNat_ofN, ints_length, List.length_append, List.length_take, List.length_drop, List.length_replicate, List.length_cons, List.length_nil, List.length_map, maxBytes]); (try simp only [ofN]); omega) ?_
  cbv
  refine Chk.mk (by (try simp only [NX.v, IX.v, nadd, nsub, nmul, aop_add, aop_sub, aop_mul, toNat_ofN, ints_length, List.length_append, List.length_take, List.length_drop, List.length_replicate, List.length_cons, List.length_nil, List.length_map, maxBytes]); (try simp only [ofN]); omega) ?_
  cbv
  refine Chk.mk (by (try simp only [NX.v, IX.v, nadd, nsub, nmul, aop_add, aop_sub, aop_mul, toNat_ofN, ints_length, List.length_append, List.length_take, List.length_drop, List.length_replicate, List.length_cons, List.length_nil, List.length_map, maxBytes, e1]); (try simp only [ofN]); omega) ?_
  cbv
  refine Chk.mk (by (try simp only [NX.v, IX.v, nadd, nsub, nmul, aop_add, aop_sub, aop_mul, toNat_ofN, ints_length, List.length_append, List.length_take, List.length_drop, List.length_replicate, List.length_cons, List.length_nil, List.length_map, maxBytes, e1]); (try simp only [ofN]); omega) ?_
  cbv
  refine .mk _ _ h2 ?_ ?_
  · cbv
    repeat' first | apply And.intro | exact trivial | exact SameI.mk (by with_reducible rfl) | exact SameN.mk (by with_reducible rfl) | exact SameL.mk (by with_reducible rfl) | exact SameB.mk (by with_reducible rfl) | exact LeN.mk (by with_reducible exact Nat.le_refl _) | apply SameI.mk | apply SameN.mk | apply SameL.mk | apply SameB.mk | apply LeN.mk
    all_goals simp only [NX.v, IX.v, nadd, nsub, toNat_ofN, e1]
    all_goals first | omega | skip
  · cbv
    repeat' first | apply And.intro | exact trivial | exact SameI.mk (by with_reducible rfl) | exact SameN.mk (by with_reducible rfl) | exact SameL.mk (by with_reducible rfl) | exact SameB.mk (by with_reducible rfl) | exact LeN.mk (by with_reducible exact Nat.le_refl _) | apply SameI.mk | apply SameN.mk | apply SameL.mk | apply SameB.mk | apply LeN.mk
    show List.take (ofN (nadd (ofN a).toNat (nsub l.length (ofN a + 1).toNat))).toNat _ ++ List.replicate (nsub (ofN l.length).toNat (ofN (nadd (ofN a).toNat (nsub l.length (ofN a + 1).toNat))).toNat) [D.i 0] ++ List.drop _ _ = _
    have e3 : a + (l.length - (a + 1)) = l.length - 1 := by omega
    have e4 : l.length - 1 + (l.length - (l.length - 1)) = l.length := by omega
    simp only [NX.v, IX.v, nadd, nsub, toNat_ofN, e1, e3, e4, ints_zero, ints_append, ints_take, ints_drop, Nat.zero_add]
    have := del_rows l m a ha
    rw [e3] at this
    rw [this]
end Go.Proofs.Ytlgmbpnlakjefaa
