/- Contracts: the bits of a word as a list; the sum of a word and products; the other party's table. -/
import Derived.Test.YtlgmbpnlakjefaaBl2
namespace Go.Proofs.Ytlgmbpnlakjefaa
open Go.Sy
set_option maxRecDepth 10000
set_option linter.unusedSimpArgs false
set_option linter.unusedVariables false
/-- a bit of a word, as the code reckons it -/
def bitU (w : Int) (i : Nat) : Int := IntKind.u8.wrap (aop (.bits .and .u16) (aop (.shr .u16) w (ofN i)) 1)
def word16 (w : Int) : Prop := 0 ≤ w ∧ w ≤ 65535
def cMasks : Con := fun args h K => match args with
  | [.int .u16 w] => match h with
    | [] => K (.arr [.int .u8] fun _ => arrOf 15 (bitU w.v)) []
    | _ => False
  | _ => False
theorem s111 : Sound Try.prog 111 cMasks := by
  refine k111.kept tabOk envOk_nil mixed o111 fun args h K hc => ?_
  unfold cMasks at hc
  split at hc
  · rename_i n
    split at hc
    · refine ⟨_, [], Ent.cons (ent_int _ _) Ent.nil, trivial, ?_⟩
      revert hc
      generalize n.v = w
      intro h2
      cbv
      refine loop_inv [0, 2, 3, 5] (fun (i : Nat) => i ≤ 15) (fun i => ⟨[.int .u16 (.t fun _ => w), .undef, .ptr 0 (.l 0) (.l 0), .ptr 1 (.l 0) (.l 0), .undef, .int .i64 (.t fun _ => ofN i), .undef, .undef, .undef, .undef, .undef, .undef, .undef, .undef, .undef, .undef, .undef], [some ⟨true, .rows [.int .u8] fun _ => arrOf 15 (upto 0 (bitU w))⟩, some ⟨true, .rows [.int .u8] fun _ => arrOf 15 (upto i (bitU w))⟩]⟩) (fun i => 15 - i) 0 (Nat.zero_le _) ?_ ?_
      · cbv
        exact ⟨⟨.mk rfl, .mk rfl, trivial⟩, .mk (upto_zero 15 _), .mk (upto_zero 15 _), trivial⟩
      · intro i R hi hR
        have i0 := ofN_nonneg i
        cbv
        refine Br.mk (fun hc => ?_) (fun hc => ?_)
        · have hi2 : i < 15 := by have := lt_t.1 hc; simp only [ofN] at this; omega
          cbv
          refine Chk.mk (i0) ?_
          cbv
          refine Chk.mk (ofN_in hi2) ?_
          cbv
          refine Chk.mk (ofN_len hi2 (arrOf_length _ _)) ?_
          cbv
          refine Chk.mk (inR64 (by rw [aop_add]; simp only [ofN]; omega)) ?_
          cbv
          refine .mk (hR (i + 1) _ hi2 (by omega) ?_)
          cbv
          refine ⟨⟨.mk rfl, .mk (ofN_succ i).symm, trivial⟩, .mk rfl, .mk ?_, trivial⟩
          refine upto_put hi2 (bitU w) _ ?_
          rfl
        · have hi2 : i = 15 := by have := lt_f.1 hc; simp only [ofN] at this; omega
          subst hi2
          cbv
          refine .mk ?_
          cbv
          refine Chk.mk (arrOf_length _ _) ?_
          cbv
          refine Chk.mk (arrOf_length _ _) ?_
          cbv
          refine Chk.mk (arrOf_length _ _) ?_
          cbv
          refine Chk.mk (arrOf_length _ _) ?_
          cbv
          exact .mk _ _ h2 ⟨trivial, .mk (upto_full 15 _)⟩ trivial
    · exact hc.elim
  · exact hc.elim
/-- what 'count' has after some places -/
def countTo (lw lp : List (List D)) : Nat → Int
  | 0 => 0
  | i + 1 => opOf 104 (opOf 113 (countTo lw lp i) (at1 lw i)) (opOf 105 2 (at1 lp i))
theorem countTo_range (lw lp : List (List D)) (i : Nat) : 0 ≤ countTo lw lp i ∧ countTo lw lp i < 31 := by
  cases i with
  | zero => simp [countTo]
  | succ i => exact opOf_range _ _ _
def cCount : Con := fun args h K => match args with
  | [a, b] => match h with
    | [] => asRows [.int .u8] 15 a fun lw => asRows [.int .u8] 15 b fun lp => Chk (fun _ => bytes15 (lw ()) (lp ())) fun _ => K (.int .i64 (.t fun _ => countTo (lw ()) (lp ()) 15)) []
    | _ => False
  | _ => False
theorem count_keeps {la lb : List (List D)} (l1 : la.length = 15) (l2 : lb.length = 15) (h1 : bytes15 la lb) {K : AV → Heap → Prop} (h2 : K (.int .i64 (.t fun _ => countTo la lb 15)) []) :
    eFunc tab (env [(104, cRes 104), (105, cRes 105), (113, cRes 113), (128, cOf)]) (Try.f112.body.getD .skip) Try.f112.ntmps Try.f112.results.toList [.arr [.int .u8] fun _ => la, .arr [.int .u8] fun _ => lb] [] (Ret K) := by
  cbv
  refine Chk.mk (l1) ?_
  cbv
  refine Chk.mk (l2) ?_
  cbv
  refine Chk.mk (l1) ?_
  cbv
  refine loop_inv [3, 5, 8, 9] (fun (i : Nat) => i ≤ 15) (fun i => ⟨[.undef, .undef, .undef, .ptr 0 (.l 0) (.l 0), .undef, .int .i64 (.t fun _ => countTo la lb i), .undef, .undef, .arr [.int .u8] fun _ => la, .int .i64 (.t fun _ => ofN i), .undef, .undef, .undef, .undef, .undef, .undef, .undef, .undef, .undef, .undef, .undef, .undef, .undef, .undef, .undef], [some ⟨true, .rows [.int .u8] fun _ => lb⟩]⟩) (fun i => 15 - i) 0 (Nat.zero_le _) ?_ ?_
  · cbv
    exact ⟨⟨.mk rfl, .mk rfl, .mk rfl, trivial⟩, .mk rfl, trivial⟩
  · intro i R hi hR
    have i0 := ofN_nonneg i
    have hr := countTo_range la lb i
    cbv
    refine Br.mk (fun hc => ?_) (fun hc => ?_)
    · have hi2 : i < 15 := by have := lt_t.1 hc; simp only [ofN] at this; omega
      have eb1 := h1 i hi2
      unfold byte at eb1
      have ea : IntKind.i64.wrap (at1 la i) = at1 la i := wrap64 (by omega)
      have eb : IntKind.i64.wrap (at1 lb i) = at1 lb i := wrap64 (by omega)
      cbv
      refine Chk.mk (ofN_in hi2) ?_
      cbv
      refine Chk.mk (l1) ?_
      cbv
      refine Chk.mk (ofN_in hi2) ?_
      cbv
      refine Chk.mk (ofN_len hi2 l2) ?_
      cbv
      refine Chk.mk ?_ ?_
      · show -1000 ≤ countTo la lb i ∧ countTo la lb i ≤ 1000 ∧ -1000 ≤ IntKind.i64.wrap (at1 la (ofN i).toNat) ∧ IntKind.i64.wrap (at1 la (ofN i).toNat) ≤ 1000
        rw [toNat_ofN, ea]
        omega
      cbv
      refine Chk.mk ?_ ?_
      · show -1000 ≤ (2 : Int) ∧ (2 : Int) ≤ 1000 ∧ -1000 ≤ IntKind.i64.wrap (at1 lb (ofN i).toNat) ∧ IntKind.i64.wrap (at1 lb (ofN i).toNat) ≤ 1000
        rw [toNat_ofN, eb]
        omega
      cbv
      refine Chk.mk ?_ ?_
      · have r1 := opOf_range 113 (countTo la lb i) (IntKind.i64.wrap (at1 la (ofN i).toNat))
        have r2 := opOf_range 105 2 (IntKind.i64.wrap (at1 lb (ofN i).toNat))
        show -1000 ≤ opOf 113 (countTo la lb i) (IntKind.i64.wrap (at1 la (ofN i).toNat)) ∧ opOf 113 (countTo la lb i) (IntKind.i64.wrap (at1 la (ofN i).toNat)) ≤ 1000 ∧ -1000 ≤ opOf 105 2 (IntKind.i64.wrap (at1 lb (ofN i).toNat)) ∧ opOf 105 2 (IntKind.i64.wrap (at1 lb (ofN i).toNat)) ≤ 1000
        omega
      cbv
      refine Chk.mk (inR64 (by rw [aop_add]; simp only [ofN]; omega)) ?_
      cbv
      refine .mk (hR (i + 1) _ hi2 (by omega) ?_)
      cbv
      refine ⟨⟨.mk ?_, .mk rfl, .mk (ofN_succ i).symm, trivial⟩, .mk rfl, trivial⟩
      show opOf 104 (opOf 113 (countTo la lb i) (IntKind.i64.wrap (at1 la (ofN i).toNat))) (opOf 105 2 (IntKind.i64.wrap (at1 lb (ofN i).toNat))) = _
      rw [toNat_ofN, ea, eb]
      rfl
    · have hi2 : i = 15 := by have := lt_f.1 hc; simp only [ofN] at this; omega
      subst hi2
      cbv
      refine .mk ?_
      cbv
      exact .mk _ _ h2 ⟨trivial, .mk rfl⟩ trivial
theorem s112 : Sound Try.prog 112 cCount := by
  refine k112.kept tabOk e2 mixed o112 fun args h K hc => ?_
  unfold cCount at hc
  split at hc
  · rename_i a b
    split at hc
    · obtain ⟨lw, hc, l1, w1⟩ := asRows_arr (by decide) hc
      obtain ⟨lp, hc, l2, w2⟩ := asRows_arr (by decide) hc
      cases hc with
      | mk h1 h2 => exact ⟨_, [], Ent.cons w1 (Ent.cons w2 Ent.nil), trivial, count_keeps l1 l2 h1 h2⟩
    · exact hc.elim
  · exact hc.elim
end Go.Proofs.Ytlgmbpnlakjefaa
