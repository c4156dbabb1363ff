/- Contracts: the other party's table. -/
import Derived.Test.YtlgmbpnlakjefaaBl3
namespace Go.Proofs.Ytlgmbpnlakjefaa
open Go.Sy
set_option maxRecDepth 10000
set_option linter.unusedSimpArgs false
set_option linter.unusedVariables false
/-- is the sum of row and column, each less its shift, at most the limit? -/
def nearB (rc rs lim : Int) (i j : Nat) : Bool := cop .le (m31 (m31 (ofN i - rc) + m31 (ofN j - rs))) lim
/-- a row after some columns -/
def rowTo (rc rs lim x : Int) (i : Nat) : Nat → Int
  | 0 => x
  | j + 1 => match nearB rc rs lim i j with
    | true => aop (.bits .xor .u32) (rowTo rc rs lim x i j) (aop (.shl .u32) 1 (ofN j))
    | false => rowTo rc rs lim x i j
def otherOf (la : List (List D)) (rc rs lim : Int) (i : Nat) : Int := rowTo rc rs lim (at1 la i) i 31
def mixed2 (i : Nat) (f g : Nat → Int) (j : Nat) : Int := if j < i then f j else g j
theorem mixed2_put {n i : Nat} (hi : i < n) (f g : Nat → Int) : arrOf n (put1 (mixed2 i f g) i (f i)) = arrOf n (mixed2 (i + 1) f g) := by
  refine arrOf_congr fun j hj => ?_
  unfold put1 mixed2
  by_cases e : j = i
  · subst e; simp
  · simp only [e, if_false]
    by_cases e2 : j < i
    · rw [if_pos e2, if_pos (by omega)]
    · rw [if_neg e2, if_neg (by omega)]
theorem mixed2_id {n i : Nat} (f g : Nat → Int) : arrOf n (put1 (mixed2 i f g) i (g i)) = arrOf n (mixed2 i f g) := by
  refine arrOf_congr fun j hj => ?_
  unfold put1 mixed2
  by_cases e : j = i
  · subst e; simp
  · simp only [e, if_false]
theorem put1_put1 (n : Nat) (f : Nat → Int) (i : Nat) (x y : Int) : arrOf n (put1 (put1 f i x) i y) = arrOf n (put1 f i y) := by
  refine arrOf_congr fun j hj => ?_
  unfold put1
  by_cases e : j = i <;> simp [e]
def cOther : Con := fun args h K => match args with
  | [a, .int .u8 rc, .int .u8 rs, .int .i64 lim] => match h with
    | [] => asRows [.int .u32] 31 a fun la => Chk (fun _ => byte rc.v ∧ byte rs.v) fun _ => K (.arr [.int .u32] fun _ => arrOf 31 (otherOf (la ()) rc.v rs.v lim.v)) []
    | _ => False
  | _ => False
theorem other_keeps {f : Nat → Int} {g : Nat → Int} {rc rs lim : Int} (hg : g = fun i => rowTo rc rs lim (f i) i 31) (h1 : byte rc ∧ byte rs) {K : AV → Heap → Prop} (h2 : K (.arr [.int .u32] fun _ => arrOf 31 g) []) :
    eFunc tab (env [(113, cRes 113), (128, cOf)]) (Try.f106.body.getD .skip) Try.f106.ntmps Try.f106.results.toList [.arr [.int .u32] fun _ => arrOf 31 f, .int .u8 (.t fun _ => rc), .int .u8 (.t fun _ => rs), .int .i64 (.t fun _ => lim)] [] (Ret K) := by
  have wrc : IntKind.i64.wrap rc = rc := wrap64 (by unfold byte at h1; omega)
  have wrs : IntKind.i64.wrap rs = rs := wrap64 (by unfold byte at h1; omega)
  unfold byte at h1
  cbv
  refine Chk.mk (arrOf_length _ _) ?_
  cbv
  refine loop_inv [1, 2, 3, 4, 8, 11] (fun (i : Nat) => i ≤ 31) (fun i => ⟨[.undef, .int .u8 (.t fun _ => rc), .int .u8 (.t fun _ => rs), .int .i64 (.t fun _ => lim), .ptr 0 (.l 0) (.l 0), .undef, .undef, .undef, .ptr 1 (.l 0) (.l 0), .undef, .undef, .int .i64 (.t fun _ => ofN i), .undef, .undef, .undef, .undef, .undef, .undef, .undef, .undef, .undef, .undef, .undef, .undef, .undef, .undef, .undef, .undef, .undef, .undef, .undef, .undef, .undef, .undef, .undef, .undef, .undef, .undef, .undef, .undef], [some ⟨true, .rows [.int .u32] fun _ => arrOf 31 (mixed2 i g f)⟩, some ⟨true, .rows [.int .u32] fun _ => arrOf 31 (upto 0 f)⟩]⟩) (fun i => 31 - i) 0 (Nat.zero_le _) ?_ ?_
  · cbv
    exact ⟨⟨.mk rfl, .mk rfl, .mk rfl, .mk rfl, trivial⟩, .mk (arrOf_congr fun i _ => by simp [mixed2]), .mk (upto_zero 31 _), trivial⟩
  · intro i R hi hR
    have i0 := ofN_nonneg i
    cbv
    refine Br.mk (fun hc => ?_) (fun hc => ?_)
    · have hi2 : i < 31 := by have := lt_t.1 hc; simp only [ofN] at this; omega
      cbv
      refine loop_inv [1, 2, 3, 4, 8, 9, 11, 14] (fun (j : Nat) => j ≤ 31) (fun j => ⟨[.undef, .int .u8 (.t fun _ => rc), .int .u8 (.t fun _ => rs), .int .i64 (.t fun _ => lim), .ptr 0 (.l 0) (.l 0), .undef, .undef, .undef, .ptr 1 (.l 0) (.l 0), .int .i64 (.t fun _ => ofN i), .undef, .int .i64 (.t fun _ => ofN i), .undef, .undef, .int .i64 (.t fun _ => ofN j), .undef, .undef, .undef, .undef, .undef, .undef, .undef, .undef, .undef, .undef, .undef, .undef, .undef, .undef, .undef, .undef, .undef, .undef, .undef, .undef, .undef, .undef, .undef, .undef, .undef], [some ⟨true, .rows [.int .u32] fun _ => arrOf 31 (put1 (mixed2 i g f) i (rowTo rc rs lim (f i) i j))⟩, some ⟨true, .rows [.int .u32] fun _ => arrOf 31 (upto 0 f)⟩]⟩) (fun i => 31 - i) 0 (Nat.zero_le _) ?_ ?_
      · cbv
        exact ⟨⟨.mk rfl, .mk rfl, .mk rfl, .mk rfl, .mk rfl, .mk rfl, trivial⟩, .mk (mixed2_id g f).symm, .mk rfl, trivial⟩
      · intro j R2 hj hR2
        have j0 := ofN_nonneg j
        cbv
        refine Br.mk (fun hc2 => ?_) (fun hc2 => ?_)
        · have hj2 : j < 31 := by have := lt_t.1 hc2; simp only [ofN] at this; omega
          have hi3 : ofN i < 31 := by simp only [ofN]; omega
          have hj3 : ofN j < 31 := by simp only [ofN]; omega
          have q1 := m31_range (ofN i - rc)
          have q2 := m31_range (ofN j - rs)
          cbv
          refine Chk.mk (inR64 (by rw [aop_sub, wrc]; omega)) ?_
          cbv
          refine Chk.mk ((by show small (ofN i - IntKind.i64.wrap rc); rw [wrc]; unfold small; omega)) ?_
          cbv
          refine Chk.mk (inR64 (by rw [aop_sub, wrs]; omega)) ?_
          cbv
          refine Chk.mk ((by show small (ofN j - IntKind.i64.wrap rs); rw [wrs]; unfold small; omega)) ?_
          cbv
          refine Chk.mk ?_ ?_
          · show -1000 ≤ m31 (ofN i - IntKind.i64.wrap rc) ∧ m31 (ofN i - IntKind.i64.wrap rc) ≤ 1000 ∧ -1000 ≤ m31 (ofN j - IntKind.i64.wrap rs) ∧ m31 (ofN j - IntKind.i64.wrap rs) ≤ 1000
            rw [wrc, wrs]; omega
          cbv
          refine Br.mk (fun hn => ?_) (fun hn => ?_)
          · have hn : nearB rc rs lim i j = true := by
              have : cop .le (m31 (m31 (ofN i - IntKind.i64.wrap rc) + m31 (ofN j - IntKind.i64.wrap rs))) lim = true := hn
              rw [wrc, wrs] at this
              exact this
            cbv
            refine Chk.mk (ofN_in hi2) ?_
            cbv
            refine Chk.mk (j0) ?_
            cbv
            refine Chk.mk (ofN_len hi2 (arrOf_length _ _)) ?_
            cbv
            refine Chk.mk (ofN_in hi2) ?_
            cbv
            refine Chk.mk (ofN_len hi2 (arrOf_length _ _)) ?_
            cbv
            refine Chk.mk (inR64 (by rw [aop_add]; omega)) ?_
            cbv
            refine .mk (hR2 (j + 1) _ hj2 (by omega) ?_)
            cbv
            refine ⟨⟨.mk rfl, .mk rfl, .mk rfl, .mk rfl, .mk rfl, .mk (ofN_succ j).symm, trivial⟩, .mk ?_, .mk rfl, trivial⟩
            show (arrOf 31 (put1 (mixed2 i g f) i (rowTo rc rs lim (f i) i j))).set (ofN i).toNat (((arrOf 31 (put1 (mixed2 i g f) i (rowTo rc rs lim (f i) i j))).getD (ofN i).toNat []).set 0 (.i (aop (.bits .xor .u32) (at1 (arrOf 31 (put1 (mixed2 i g f) i (rowTo rc rs lim (f i) i j))) (ofN i).toNat) (aop (.shl .u32) 1 (ofN j))))) = _
            rw [toNat_ofN, at1_arrOf hi2, arrOf_set hi2, put1_put1]
            have e : put1 (mixed2 i g f) i (rowTo rc rs lim (f i) i j) i = rowTo rc rs lim (f i) i j := by simp [put1]
            rw [e]
            simp only [rowTo, hn]
          · have hn : nearB rc rs lim i j = false := by
              have : cop .le (m31 (m31 (ofN i - IntKind.i64.wrap rc) + m31 (ofN j - IntKind.i64.wrap rs))) lim = false := hn
              rw [wrc, wrs] at this
              exact this
            cbv
            refine Chk.mk (inR64 (by rw [aop_add]; omega)) ?_
            cbv
            refine .mk (hR2 (j + 1) _ hj2 (by omega) ?_)
            cbv
            refine ⟨⟨.mk rfl, .mk rfl, .mk rfl, .mk rfl, .mk rfl, .mk (ofN_succ j).symm, trivial⟩, .mk ?_, .mk rfl, trivial⟩
            simp only [rowTo, hn]
        · have hj2 : j = 31 := by have := lt_f.1 hc2; simp only [ofN] at this; omega
          subst hj2
          have hi3 : ofN i < 31 := by simp only [ofN]; omega
          cbv
          refine .mk ?_
          cbv
          refine Chk.mk (inR64 (by rw [aop_add]; omega)) ?_
          cbv
          refine .mk (hR (i + 1) _ hi2 (by omega) ?_)
          cbv
          refine ⟨⟨.mk rfl, .mk rfl, .mk rfl, .mk (ofN_succ i).symm, trivial⟩, .mk ?_, .mk rfl, trivial⟩
          have := mixed2_put hi2 g f
          rw [hg] at this ⊢
          exact this
    · have hi2 : i = 31 := by have := lt_f.1 hc; simp only [ofN] at this; omega
      subst hi2
      cbv
      refine .mk ?_
      cbv
      refine Chk.mk (arrOf_length _ _) ?_
      cbv
      refine Chk.mk (arrOf_length _ _) ?_
      cbv
      refine Chk.mk (arrOf_length _ _) ?_
      cbv
      refine Chk.mk (arrOf_length _ _) ?_
      cbv
      exact .mk _ _ h2 ⟨trivial, .mk (arrOf_congr fun i hi => by simp [mixed2, hi])⟩ trivial
theorem s106 : Sound Try.prog 106 cOther := by
  refine k106.kept tabOk (envOk_cons e1 s113 k113.callable) mixed o106 fun args h K hc => ?_
  unfold cOther at hc
  split at hc
  · rename_i a rc rs lim
    split at hc
    · obtain ⟨la, hc, l1, w1⟩ := asRows_ints hc
      cases hc with
      | mk h1 h2 => exact ⟨_, [], Ent.cons w1 (Ent.cons (ent_int _ _) (Ent.cons (ent_int _ _) (Ent.cons (ent_int _ _) Ent.nil))), trivial, other_keeps rfl h1 h2⟩
    · exact hc.elim
  · exact hc.elim
end Go.Proofs.Ytlgmbpnlakjefaa
