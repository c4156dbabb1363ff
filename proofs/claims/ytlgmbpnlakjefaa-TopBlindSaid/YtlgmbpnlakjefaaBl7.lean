/- Contracts: what a dealer gives to two parties. -/
import Derived.Test.YtlgmbpnlakjefaaBl6
namespace Go.Proofs.Ytlgmbpnlakjefaa
open Go.Sy
set_option maxRecDepth 10000
set_option maxHeartbeats 2000000
set_option linter.unusedSimpArgs false
set_option linter.unusedVariables false
theorem e8 : EnvOk Try.prog (env [(72, cDeal), (73, cParties0)]) := envOk_cons (envOk_cons envOk_nil s73 k73.callable) s72 k72.callable
def cParties : Con := con (fun x : DealX × Int => [.agg x.1.cells, .int .i64 (.t fun _ => x.2)]) (fun _ => []) (fun x => x.1.wf ∧ dealB x.1 = true ∧ 0 ≤ x.2 ∧ x.2 ≤ 15)
  (fun x K => K (.tuple [.agg x.1.one.cells, .agg (x.1.snd x.2).cells, .int .i64 (.l 0)]) [])
theorem s36 : Sound Try.prog 36 cParties := by
  refine k36.con tabOk e8 mixed o36 fun x K hw h2 => ?_
  obtain ⟨⟨a, b, u, rc, rs, t⟩, lim⟩ := x
  obtain ⟨hw, hd, hl0, hl1⟩ := hw
  have hd : dealB ⟨a, b, u, rc, rs, t⟩ = true := hd
  have hl0 : 0 ≤ lim := hl0
  have hl1 : lim ≤ 15 := hl1
  cbv
  refine ⟨⟨a, b, u, rc, rs, t⟩, trivial, Ent.of_wvs ?_, trivial, ?_⟩
  · cbv
    repeat' first | apply And.intro | exact trivial | exact SameI.mk (by with_reducible rfl) | exact SameN.mk (by with_reducible rfl) | exact SameL.mk (by with_reducible rfl) | exact SameB.mk (by with_reducible rfl) | exact LeN.mk (by with_reducible exact Nat.le_refl _) | apply SameI.mk | apply SameN.mk | apply SameL.mk | apply SameB.mk | apply LeN.mk
    all_goals rfl
  cbv
  refine Br.mk (fun b1 => ?_) (fun b1 => ?_)
  · rw [hd] at b1
    cases b1
  cbv
  refine Br.mk (fun b2 => ?_) (fun b2 => ?_)
  · have := lt_t.1 b2; omega
  cbv
  refine Br.mk (fun b3 => ?_) (fun b3 => ?_)
  · have := gt_t.1 b3; omega
  cbv
  refine ⟨(⟨a, b, u, rc, rs, t⟩, lim), hw, Ent.of_wvs ?_, trivial, ?_⟩
  · cbv
    repeat' first | apply And.intro | exact trivial | exact SameI.mk (by with_reducible rfl) | exact SameN.mk (by with_reducible rfl) | exact SameL.mk (by with_reducible rfl) | exact SameB.mk (by with_reducible rfl) | exact LeN.mk (by with_reducible exact Nat.le_refl _) | apply SameI.mk | apply SameN.mk | apply SameL.mk | apply SameB.mk | apply LeN.mk
    all_goals rfl
  cbv
  repeat' first | refine And.intro ?_ ?_ | fail
  all_goals
    refine .mk _ _ h2 ?_ trivial
    cbv
    repeat' first | apply And.intro | exact trivial | exact SameI.mk (by with_reducible rfl) | exact SameN.mk (by with_reducible rfl) | exact SameL.mk (by with_reducible rfl) | exact SameB.mk (by with_reducible rfl) | exact LeN.mk (by with_reducible exact Nat.le_refl _) | apply SameI.mk | apply SameN.mk | apply SameL.mk | apply SameB.mk | apply LeN.mk
    all_goals rfl
end Go.Proofs.Ytlgmbpnlakjefaa
