/- Contracts: the first example of layer 6. -/
import Derived.Test.YtlgmbpnlakjefaaBlU
namespace Go.Proofs.Ytlgmbpnlakjefaa
open Go.Sy
set_option maxRecDepth 100000
set_option maxHeartbeats 1000000
set_option linter.unusedSimpArgs false
set_option linter.unusedVariables false
def zeroDeal : DealX := ⟨fun _ => 0, fun _ => 0, fun _ => 0, 0, 0, fun _ => 0⟩
theorem byte0 : byte 0 := ⟨by decide, by decide⟩
theorem zero_got : zeroDeal.got := ⟨⟨fun _ => byte0, fun _ => byte0, fun _ => byte0, byte0, byte0⟩, fun _ => (show (0 : Int) ≤ 0 ∧ (0 : Int) < 4294967296 from ⟨by decide, by decide⟩)⟩
theorem zero_ok : LeastX.ok ⟨zeroDeal, ofN 3, ofN 1, 1⟩ := by
  have h := least_ok zero_got (deal_of_valid (by decide)) (x := 3) (y := 1) (by decide) (by decide)
  rwa [show popN (3 ^^^ 1) 15 = 1 by decide] at h
theorem key_ok : KeyX.ok ⟨3, 5, 1⟩ := by refine ⟨?_, ?_, ?_, ?_, ?_, ?_⟩ <;> decide
theorem key_hides : hideI ⟨3, 5, 1⟩ 1 = 5 := by kernel_rfl
theorem key_shows : showI ⟨3, 5, 1⟩ 5 = 1 := by kernel_rfl
theorem e28 : EnvOk Try.prog (env [(10, cLeast), (8, cHide), (25, cShow)]) := envOk_cons (envOk_cons (envOk_cons envOk_nil s25 k25.callable) s8 k8.callable) s10 k10.callable
def cAlive : Con := con (fun _ : Unit => []) (fun _ => []) (fun _ => True) (fun _ K => K (.bool (.t fun _ => true)) [])
attribute [local irreducible] hideI showI popN
theorem s5 : Sound Try.prog 5 cAlive := by
  refine k5.con tabOk e28 mixed o5 fun x K _ h2 => ?_
  cbv
  refine ⟨⟨zeroDeal, ofN 3, ofN 1, 1⟩, zero_ok, Ent.of_wvs ?_, trivial, ?_⟩
  · cbv
    repeat' first | apply And.intro | exact trivial | exact SameI.mk (by with_reducible rfl) | exact SameN.mk (by with_reducible rfl) | exact SameL.mk (by with_reducible rfl) | exact SameB.mk (by with_reducible rfl) | exact LeN.mk (by with_reducible exact Nat.le_refl _) | apply SameI.mk | apply SameN.mk | apply SameL.mk | apply SameB.mk | apply LeN.mk
    all_goals first | rfl | exact (ofN_succ _).symm | (simp only [toNat_ofN, NX.v, IX.v, Nat.le_refl]; done) | ((try simp only [toNat_ofN, NX.v, IX.v, nadd, nsub]); omega) | skip
  cbv
  refine ⟨(⟨3, 5, 1⟩, 1), ⟨key_ok, by decide, by decide⟩, Ent.of_wvs ?_, trivial, ?_⟩
  · cbv
    repeat' first | apply And.intro | exact trivial | exact SameI.mk (by with_reducible rfl) | exact SameN.mk (by with_reducible rfl) | exact SameL.mk (by with_reducible rfl) | exact SameB.mk (by with_reducible rfl) | exact LeN.mk (by with_reducible exact Nat.le_refl _) | apply SameI.mk | apply SameN.mk | apply SameL.mk | apply SameB.mk | apply LeN.mk
    all_goals first | rfl | exact (ofN_succ _).symm | (simp only [toNat_ofN, NX.v, IX.v, Nat.le_refl]; done) | ((try simp only [toNat_ofN, NX.v, IX.v, nadd, nsub]); omega) | skip
  cbv
  refine ⟨(⟨3, 5, 1⟩, 5), ⟨key_ok, by decide, by decide⟩, Ent.of_wvs ?_, trivial, ?_⟩
  · cbv
    repeat' first | apply And.intro | exact trivial | exact SameI.mk (by with_reducible rfl) | exact SameN.mk (by with_reducible rfl) | exact SameL.mk (by with_reducible rfl) | exact SameB.mk (by with_reducible rfl) | exact LeN.mk (by with_reducible exact Nat.le_refl _) | apply SameI.mk | apply SameN.mk | apply SameL.mk | apply SameB.mk | apply LeN.mk
    all_goals first | rfl | exact (ofN_succ _).symm | (simp only [toNat_ofN, NX.v, IX.v, Nat.le_refl]; done) | ((try simp only [toNat_ofN, NX.v, IX.v, nadd, nsub]); omega) | skip
    all_goals exact key_hides
  cbv
  refine Br.t (fun b => ?_) (fun b => ?_)
  rotate_left
  · cases b
  cbv
  refine Br.t (fun b => ?_) (fun b => ?_)
  rotate_left
  · exact eq_f.1 b rfl
  cbv
  refine Br.t (fun b => ?_) (fun b => ?_)
  rotate_left
  · exact eq_f.1 b key_hides
  cbv
  refine .mk _ _ h2 ?_ ?_
  all_goals cbv
  all_goals repeat' first | apply And.intro | exact trivial | exact SameI.mk (by with_reducible rfl) | exact SameN.mk (by with_reducible rfl) | exact SameL.mk (by with_reducible rfl) | exact SameB.mk (by with_reducible rfl) | exact LeN.mk (by with_reducible exact Nat.le_refl _) | apply SameI.mk | apply SameN.mk | apply SameL.mk | apply SameB.mk | apply LeN.mk
  all_goals first | rfl | exact (ofN_succ _).symm | (simp only [toNat_ofN, NX.v, IX.v, Nat.le_refl]; done) | ((try simp only [toNat_ofN, NX.v, IX.v, nadd, nsub]); omega) | skip
  show cop .eq (showI ⟨3, 5, 1⟩ 5) 1 = true
  exact eq_t.2 key_shows
end Go.Proofs.Ytlgmbpnlakjefaa
