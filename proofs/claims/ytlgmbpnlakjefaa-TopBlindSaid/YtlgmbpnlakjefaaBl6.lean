/- Contracts: parties and deals. -/
import Derived.Test.YtlgmbpnlakjefaaBl5
namespace Go.Proofs.Ytlgmbpnlakjefaa
open Go.Sy
set_option maxRecDepth 10000
set_option linter.unusedSimpArgs false
set_option linter.unusedVariables false
structure PartyX where
  m : Nat → Int
  s : Nat → Int
  sh : Int
  t : Nat → Int
def PartyX.cells (x : PartyX) : List AV := cI .u8 x.m 15 0 ++ (cI .u8 x.s 15 0 ++ (.int .u8 (.t fun _ => x.sh) :: cI .u32 x.t 31 0))
def anyGe (m : Int) (n : Nat) (f : Nat → Int) : Bool := (List.range n).any fun j => decide (m ≤ f j)
def partyB (x : PartyX) : Bool := !anyGe 31 15 x.m && !anyGe 31 15 x.s && !decide (31 ≤ x.sh) && !anyGe 2147483648 31 x.t
theorem any_idx {q : Nat → Bool} {n : Nat} : cop .ge (idx q n) 0 = (List.range n).any q := by
  unfold idx
  split
  · rename_i j hj
    have h1 : cop .ge (ofN j) 0 = true := ge_t.2 (ofN_nonneg j)
    exact h1.trans (List.any_eq_true.2 ⟨j, List.mem_of_find?_eq_some hj, by simpa using List.find?_some hj⟩).symm
  · rename_i hj
    rw [List.find?_eq_none] at hj
    have h1 : cop .ge (-1) 0 = false := ge_f.2 (by omega)
    exact h1.trans (List.any_eq_false.2 fun x hx => by simpa using hj x hx).symm
theorem any_range {n : Nat} {p q : Nat → Bool} (h : ∀ j, j < n → p j = q j) : (List.range n).any p = (List.range n).any q := by
  rw [Bool.eq_iff_iff, List.any_eq_true, List.any_eq_true]
  constructor
  · rintro ⟨j, hj, hp⟩; exact ⟨j, hj, by rw [← h j (List.mem_range.1 hj)]; exact hp⟩
  · rintro ⟨j, hj, hp⟩; exact ⟨j, hj, by rw [h j (List.mem_range.1 hj)]; exact hp⟩
theorem any_geAt {m : Int} {n : Nat} {l : List (List D)} {f : Nat → Int} (h : ∀ j, j < n → at1 l j = f j) : cop .ge (idx (geAt m l 0) n) 0 = anyGe m n f := by
  rw [any_idx]
  unfold anyGe
  refine any_range fun j hj => ?_
  unfold geAt
  rw [show nadd 0 j = j from by simp [nadd], h j hj]
  rfl
theorem e5 : EnvOk Try.prog (env [(108, cContains .u8 107 31), (109, cContains .u32 110 2147483648), (107, cGe .u8 31)]) :=
  envOk_cons (envOk_cons (envOk_cons envOk_nil s107 k107.callable) s109 k109.callable) s108 k108.callable
theorem bnot_t {x : Bool} : bnot x = true ↔ x = false := by cases x <;> simp [bnot]
theorem bnot_f {x : Bool} : bnot x = false ↔ x = true := by cases x <;> simp [bnot]
def cParty : Con := con (fun x : PartyX => [.agg x.cells]) (fun _ => []) (fun _ => True) (fun x K => K (.bool (.t fun _ => partyB x)) [])
theorem s74 : Sound Try.prog 74 cParty := by
  refine k74.con tabOk e5 mixed o74 fun x K _ h2 => ?_
  obtain ⟨m, s, sh, t⟩ := x
  have e1 := any_geAt (m := 31) (fun j (hj : j < 15) => at1_cI (k := .u8) (f := m) hj)
  have e2 := any_geAt (m := 31) (fun j (hj : j < 15) => at1_cI (k := .u8) (f := s) hj)
  have e3 := any_geAt (m := 2147483648) (fun j (hj : j < 31) => at1_cI (k := .u32) (f := t) hj)
  have e4 : cop .ge sh 31 = decide (31 ≤ sh) := rfl
  cbv
  refine Chk.mk ⟨Nat.le_refl _, by decide⟩ ?_
  cbv
  refine Br.mk (fun b1 => ?_) (fun b1 => ?_)
  · have b1 := e1.symm.trans (bnot_t.1 b1)
    cbv
    refine Chk.mk ⟨Nat.le_refl _, by decide⟩ ?_
    cbv
    refine Br.mk (fun b2 => ?_) (fun b2 => ?_)
    · have b2 := e2.symm.trans (bnot_t.1 b2)
      cbv
      refine Br.mk (fun b3 => ?_) (fun b3 => ?_)
      · have b3 := e4.symm.trans (bnot_t.1 b3)
        cbv
        refine Chk.mk ⟨Nat.le_refl _, by decide⟩ ?_
        cbv
        refine .mk _ _ h2 (.mk ?_) trivial
        refine (congrArg not e3).trans ?_
        simp [partyB, b1, b2, b3, BX.v]
      · have b3 := e4.symm.trans (bnot_f.1 b3)
        cbv
        refine .mk _ _ h2 (.mk ?_) trivial
        simp [partyB, b1, b2, b3, BX.v]
    · have b2 := e2.symm.trans (bnot_f.1 b2)
      cbv
      refine .mk _ _ h2 (.mk ?_) trivial
      simp [partyB, b1, b2, BX.v]
  · have b1 := e1.symm.trans (bnot_f.1 b1)
    cbv
    refine .mk _ _ h2 (.mk ?_) trivial
    simp [partyB, b1, BX.v]
structure DealX where
  a : Nat → Int
  b : Nat → Int
  u : Nat → Int
  rc : Int
  rs : Int
  t : Nat → Int
def DealX.cells (x : DealX) : List AV := cI .u8 x.a 15 0 ++ (cI .u8 x.b 15 0 ++ (cI .u8 x.u 15 0 ++ (.int .u8 (.t fun _ => x.rc) :: .int .u8 (.t fun _ => x.rs) :: cI .u32 x.t 31 0)))
def DealX.one (x : DealX) : PartyX := ⟨x.a, x.u, x.rc, x.t⟩
def DealX.two (x : DealX) : PartyX := ⟨x.b, fun _ => 0, x.rs, fun _ => 0⟩
def dealB (x : DealX) : Bool := partyB x.one && partyB x.two
def errI (b : Bool) (e : Int) : Int := match b with | true => 0 | false => e
theorem e6 : EnvOk Try.prog (env [(74, cParty)]) := envOk_cons envOk_nil s74 k74.callable
def cDeal : Con := con (fun x : DealX => [.agg x.cells]) (fun _ => []) (fun _ => True) (fun x K => K (.int .i64 (.t fun _ => errI (dealB x) 60)) [])
theorem s72 : Sound Try.prog 72 cDeal := by
  refine k72.con tabOk e6 mixed o72 fun x K _ h2 => ?_
  obtain ⟨a, b, u, rc, rs, t⟩ := x
  cbv
  refine ⟨DealX.one ⟨a, b, u, rc, rs, t⟩, trivial, Ent.of_wvs ?_, trivial, ?_⟩
  · cbv
    repeat' first | apply And.intro | exact trivial | exact SameI.mk (by with_reducible rfl) | exact SameN.mk (by with_reducible rfl) | exact SameL.mk (by with_reducible rfl) | exact SameB.mk (by with_reducible rfl) | exact LeN.mk (by with_reducible exact Nat.le_refl _) | apply SameI.mk | apply SameN.mk | apply SameL.mk | apply SameB.mk | apply LeN.mk
    all_goals rfl
  cbv
  refine Br.mk (fun b1 => ?_) (fun b1 => ?_)
  · have b1 := bnot_t.1 b1
    cbv
    refine .mk _ _ h2 ⟨trivial, .mk ?_⟩ trivial
    simp [dealB, b1, IX.v, errI]
  · have b1 := bnot_f.1 b1
    cbv
    refine ⟨DealX.two ⟨a, b, u, rc, rs, t⟩, trivial, Ent.of_wvs ?_, trivial, ?_⟩
    · cbv
      repeat' first | apply And.intro | exact trivial | exact SameI.mk (by with_reducible rfl) | exact SameN.mk (by with_reducible rfl) | exact SameL.mk (by with_reducible rfl) | exact SameB.mk (by with_reducible rfl) | exact LeN.mk (by with_reducible exact Nat.le_refl _) | apply SameI.mk | apply SameN.mk | apply SameL.mk | apply SameB.mk | apply LeN.mk
      all_goals rfl
    cbv
    refine Br.mk (fun b2 => ?_) (fun b2 => ?_)
    · have b2 := bnot_t.1 b2
      cbv
      refine .mk _ _ h2 ⟨trivial, .mk ?_⟩ trivial
      simp [dealB, b1, b2, IX.v, errI]
    · have b2 := bnot_f.1 b2
      cbv
      refine .mk _ _ h2 ⟨trivial, .mk ?_⟩ trivial
      simp [dealB, b1, b2, IX.v, errI]
def DealX.wf (x : DealX) : Prop := (∀ i, byte (x.a i)) ∧ (∀ i, byte (x.b i)) ∧ (∀ i, byte (x.u i)) ∧ byte x.rc ∧ byte x.rs
/-- the share of the second party -/
def DealX.v (x : DealX) (i : Nat) : Int := opOf 104 (opOf 105 (x.a i) (x.b i)) (x.u i)
def DealX.snd (x : DealX) (lim : Int) : PartyX := ⟨x.b, x.v, x.rs, fun i => rowTo x.rc x.rs lim (x.t i) i 31⟩
theorem e7 : EnvOk Try.prog (env [(103, cEach), (106, cOther)]) := envOk_cons (envOk_cons envOk_nil s106 k106.callable) s103 k103.callable
def cParties0 : Con := con (fun x : DealX × Int => [.agg x.1.cells, .int .i64 (.t fun _ => x.2)]) (fun _ => []) (fun x => x.1.wf) (fun x K => K (.tuple [.agg x.1.one.cells, .agg (x.1.snd x.2).cells]) [])
theorem s73 : Sound Try.prog 73 cParties0 := by
  refine k73.con tabOk e7 mixed o73 fun x K hw h2 => ?_
  obtain ⟨⟨a, b, u, rc, rs, t⟩, lim⟩ := x
  obtain ⟨ha, hb, hu, hrc, hrs⟩ := hw
  have hb1 : bytes15 (rowsOf 1 15 (cI .u8 a 15 0)) (rowsOf 1 15 (cI .u8 b 15 0)) := fun i hi => by rw [at1_cI hi, at1_cI hi]; exact ⟨ha i, hb i⟩
  have hb2 : ∀ f g, bytes15 (arrOf 15 (eachOf 105 f g)) (rowsOf 1 15 (cI .u8 u 15 0)) := fun f g i hi => by
    rw [at1_cI hi, at1_arrOf hi]
    refine ⟨?_, hu i⟩
    have := opOf_range 105 (at1 f i) (at1 g i)
    unfold byte eachOf
    omega
  have hr : byte rc ∧ byte rs := ⟨hrc, hrs⟩
  cbv
  repeat' first | refine And.intro ?_ ?_ | (refine Chk.mk hb1 ?_; cbv) | (refine Chk.mk (hb2 _ _) ?_; cbv) | (refine Chk.mk (arrOf_length _ _) ?_; cbv) | (refine Chk.mk hr ?_; cbv) | (refine Chk.mk (rowsOf_length _ _ _) ?_; cbv) | fail
  all_goals
    refine .mk _ _ h2 ?_ trivial
    cbv
    repeat' first | apply And.intro | exact trivial | exact SameI.mk (by with_reducible rfl) | exact SameN.mk (by with_reducible rfl) | exact SameL.mk (by with_reducible rfl) | exact SameB.mk (by with_reducible rfl) | exact LeN.mk (by with_reducible exact Nat.le_refl _) | apply SameI.mk | apply SameN.mk | apply SameL.mk | apply SameB.mk | apply LeN.mk
    all_goals rfl
end Go.Proofs.Ytlgmbpnlakjefaa
