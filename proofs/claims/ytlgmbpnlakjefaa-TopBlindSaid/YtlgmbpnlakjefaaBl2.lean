/- Contracts: lists of numbers modulo 31, entry by entry. -/
import Derived.Test.YtlgmbpnlakjefaaBl1
namespace Go.Proofs.Ytlgmbpnlakjefaa
open Go.Sy
set_option maxRecDepth 10000
set_option linter.unusedSimpArgs false
set_option linter.unusedVariables false

def upto (i : Nat) (f : Nat → Int) (j : Nat) : Int := if j < i then f j else 0
theorem upto_zero (n : Nat) (f : Nat → Int) : List.replicate n [D.i 0] = arrOf n (upto 0 f) := arrOf_zero n _ fun i _ => by simp [upto]
theorem upto_put {n i : Nat} (hi : i < n) (f : Nat → Int) (x : Int) (h : x = f i) : (arrOf n (upto i f)).set i (((arrOf n (upto i f)).getD i []).set 0 (.i x)) = arrOf n (upto (i + 1) f) := by
  rw [arrOf_set hi]
  refine arrOf_congr fun j hj => ?_
  unfold put1 upto
  by_cases e : j = i
  · subst e; simp [h]
  · simp only [e, if_false]
    by_cases e2 : j < i
    · rw [if_pos e2, if_pos (by omega)]
    · rw [if_neg e2, if_neg (by omega)]
theorem upto_full (n : Nat) (f : Nat → Int) : arrOf n (upto n f) = arrOf n f := arrOf_congr fun i hi => by simp [upto, hi]
def eachOf (g : Nat) (la lb : List (List D)) (i : Nat) : Int := opOf g (at1 la i) (at1 lb i)
def bytes15 (la lb : List (List D)) : Prop := ∀ i, i < 15 → byte (at1 la i) ∧ byte (at1 lb i)
def cEach : Con := fun args h K => match args with
  | [.func (.func g) [] [], a, b] => match h with
    | [] => match memN [104, 105, 113] g with
      | true => asRows [.int .u8] 15 a fun la => asRows [.int .u8] 15 b fun lb => Chk (fun _ => bytes15 (la ()) (lb ())) fun _ => K (.arr [.int .u8] fun _ => arrOf 15 (eachOf g (la ()) (lb ()))) []
      | false => False
    | _ => False
  | _ => False
theorem opOf_range (g : Nat) (x y : Int) : 0 ≤ opOf g x y ∧ opOf g x y < 31 := by
  unfold opOf; split <;> exact m31_range _
theorem wrap64 {x : Int} (h : -9223372036854775808 ≤ x ∧ x ≤ 9223372036854775807) : IntKind.i64.wrap x = x := wrap_inR (inR64 h)
theorem wrap8 {x : Int} (h : 0 ≤ x ∧ x ≤ 255) : IntKind.u8.wrap x = x := wrap_inR (by simp [inR, IntKind.min, IntKind.max, IntKind.signed, IntKind.bits]; omega)
theorem each_keeps_104 {la lb : List (List D)} (l1 : la.length = 15) (l2 : lb.length = 15) (hb : bytes15 la lb) {K : AV → Heap → Prop} (h2 : K (.arr [.int .u8] fun _ => arrOf 15 (eachOf 104 la lb)) []) :
    eFunc tab (env [(104, cRes 104), (105, cRes 105), (113, cRes 113), (128, cOf)]) (Try.f103.body.getD .skip) Try.f103.ntmps Try.f103.results.toList [.func (.func 104) [] [], .arr [.int .u8] fun _ => la, .arr [.int .u8] fun _ => lb] [] (Ret K) := by
  cbv
  refine Chk.mk l1 ?_
  cbv
  refine Chk.mk l2 ?_
  cbv
  refine loop_inv [0, 4, 5, 6, 7, 9] (fun (i : Nat) => i ≤ 15) (fun i => ⟨[.func (.func 104) [] [], .undef, .undef, .undef, .ptr 0 (.l 0) (.l 0), .ptr 1 (.l 0) (.l 0), .ptr 2 (.l 0) (.l 0), .ptr 3 (.l 0) (.l 0), .undef, .int .i64 (.t fun _ => ofN i),
      .undef, .undef, .undef, .undef, .undef, .undef, .undef, .undef, .undef, .undef, .undef, .undef, .undef, .undef, .undef, .undef, .undef],
    [some ⟨true, .rows [.int .u8] fun _ => la⟩, some ⟨true, .rows [.int .u8] fun _ => lb⟩, some ⟨true, .rows [.int .u8] fun _ => arrOf 15 (upto 0 (eachOf 104 la lb))⟩, some ⟨true, .rows [.int .u8] fun _ => arrOf 15 (upto i (eachOf 104 la lb))⟩]⟩)
    (fun i => 15 - i) 0 (Nat.zero_le _) ?_ ?_
  · cbv
    exact ⟨⟨.mk rfl, trivial⟩, .mk rfl, .mk rfl, .mk (upto_zero 15 _), .mk (upto_zero 15 _), trivial⟩
  · intro i R hi hR
    have i0 := ofN_nonneg i
    cbv
    refine Br.mk (fun hc => ?_) (fun hc => ?_)
    · have hi2 : i < 15 := by have := lt_t.1 hc; simp only [ofN] at this; omega
      cbv
      refine Chk.mk (ofN_in hi2) ?_
      cbv
      refine Chk.mk (ofN_in hi2) ?_
      cbv
      refine Chk.mk (ofN_len hi2 l1) ?_
      cbv
      refine Chk.mk (ofN_len hi2 l2) ?_
      cbv
      have ea : IntKind.i64.wrap (at1 la i) = at1 la i := by have := (hb i hi2).1; unfold byte at this; exact wrap64 (by omega)
      have eb : IntKind.i64.wrap (at1 lb i) = at1 lb i := by have := (hb i hi2).2; unfold byte at this; exact wrap64 (by omega)
      refine Chk.mk ?_ ?_
      · show -1000 ≤ IntKind.i64.wrap (at1 la (ofN i).toNat) ∧ IntKind.i64.wrap (at1 la (ofN i).toNat) ≤ 1000 ∧ -1000 ≤ IntKind.i64.wrap (at1 lb (ofN i).toNat) ∧ IntKind.i64.wrap (at1 lb (ofN i).toNat) ≤ 1000
        rw [toNat_ofN, ea, eb]
        have := hb i hi2
        unfold byte at this
        omega
      cbv
      refine Chk.mk (ofN_in hi2) ?_
      cbv
      refine Chk.mk (ofN_len hi2 (arrOf_length _ _)) ?_
      cbv
      refine Chk.mk (inR64 (by rw [aop_add]; simp only [ofN]; omega)) ?_
      cbv
      refine .mk (hR (i + 1) _ hi2 (by omega) ?_)
      cbv
      refine ⟨⟨.mk (ofN_succ i).symm, trivial⟩, .mk rfl, .mk rfl, .mk rfl, .mk ?_, trivial⟩
      refine upto_put hi2 (eachOf 104 la lb) _ ?_
      show IntKind.u8.wrap (opOf 104 (IntKind.i64.wrap (at1 la (ofN i).toNat)) (IntKind.i64.wrap (at1 lb (ofN i).toNat))) = eachOf 104 la lb i
      rw [toNat_ofN, ea, eb]
      have := opOf_range 104 (at1 la i) (at1 lb i)
      exact wrap8 (by omega)
    · have hi2 : i = 15 := by have := lt_f.1 hc; simp only [ofN] at this; omega
      subst hi2
      cbv
      refine .mk ?_
      cbv
      refine Chk.mk (arrOf_length _ _) ?_
      cbv
      refine Chk.mk (arrOf_length _ _) ?_
      cbv
      refine Chk.mk (arrOf_length _ _) ?_
      cbv
      refine Chk.mk (arrOf_length _ _) ?_
      cbv
      exact .mk _ _ h2 ⟨trivial, .mk (upto_full 15 _)⟩ trivial
theorem each_keeps_105 {la lb : List (List D)} (l1 : la.length = 15) (l2 : lb.length = 15) (hb : bytes15 la lb) {K : AV → Heap → Prop} (h2 : K (.arr [.int .u8] fun _ => arrOf 15 (eachOf 105 la lb)) []) :
    eFunc tab (env [(104, cRes 104), (105, cRes 105), (113, cRes 113), (128, cOf)]) (Try.f103.body.getD .skip) Try.f103.ntmps Try.f103.results.toList [.func (.func 105) [] [], .arr [.int .u8] fun _ => la, .arr [.int .u8] fun _ => lb] [] (Ret K) := by
  cbv
  refine Chk.mk l1 ?_
  cbv
  refine Chk.mk l2 ?_
  cbv
  refine loop_inv [0, 4, 5, 6, 7, 9] (fun (i : Nat) => i ≤ 15) (fun i => ⟨[.func (.func 105) [] [], .undef, .undef, .undef, .ptr 0 (.l 0) (.l 0), .ptr 1 (.l 0) (.l 0), .ptr 2 (.l 0) (.l 0), .ptr 3 (.l 0) (.l 0), .undef, .int .i64 (.t fun _ => ofN i),
      .undef, .undef, .undef, .undef, .undef, .undef, .undef, .undef, .undef, .undef, .undef, .undef, .undef, .undef, .undef, .undef, .undef],
    [some ⟨true, .rows [.int .u8] fun _ => la⟩, some ⟨true, .rows [.int .u8] fun _ => lb⟩, some ⟨true, .rows [.int .u8] fun _ => arrOf 15 (upto 0 (eachOf 105 la lb))⟩, some ⟨true, .rows [.int .u8] fun _ => arrOf 15 (upto i (eachOf 105 la lb))⟩]⟩)
    (fun i => 15 - i) 0 (Nat.zero_le _) ?_ ?_
  · cbv
    exact ⟨⟨.mk rfl, trivial⟩, .mk rfl, .mk rfl, .mk (upto_zero 15 _), .mk (upto_zero 15 _), trivial⟩
  · intro i R hi hR
    have i0 := ofN_nonneg i
    cbv
    refine Br.mk (fun hc => ?_) (fun hc => ?_)
    · have hi2 : i < 15 := by have := lt_t.1 hc; simp only [ofN] at this; omega
      cbv
      refine Chk.mk (ofN_in hi2) ?_
      cbv
      refine Chk.mk (ofN_in hi2) ?_
      cbv
      refine Chk.mk (ofN_len hi2 l1) ?_
      cbv
      refine Chk.mk (ofN_len hi2 l2) ?_
      cbv
      have ea : IntKind.i64.wrap (at1 la i) = at1 la i := by have := (hb i hi2).1; unfold byte at this; exact wrap64 (by omega)
      have eb : IntKind.i64.wrap (at1 lb i) = at1 lb i := by have := (hb i hi2).2; unfold byte at this; exact wrap64 (by omega)
      refine Chk.mk ?_ ?_
      · show -1000 ≤ IntKind.i64.wrap (at1 la (ofN i).toNat) ∧ IntKind.i64.wrap (at1 la (ofN i).toNat) ≤ 1000 ∧ -1000 ≤ IntKind.i64.wrap (at1 lb (ofN i).toNat) ∧ IntKind.i64.wrap (at1 lb (ofN i).toNat) ≤ 1000
        rw [toNat_ofN, ea, eb]
        have := hb i hi2
        unfold byte at this
        omega
      cbv
      refine Chk.mk (ofN_in hi2) ?_
      cbv
      refine Chk.mk (ofN_len hi2 (arrOf_length _ _)) ?_
      cbv
      refine Chk.mk (inR64 (by rw [aop_add]; simp only [ofN]; omega)) ?_
      cbv
      refine .mk (hR (i + 1) _ hi2 (by omega) ?_)
      cbv
      refine ⟨⟨.mk (ofN_succ i).symm, trivial⟩, .mk rfl, .mk rfl, .mk rfl, .mk ?_, trivial⟩
      refine upto_put hi2 (eachOf 105 la lb) _ ?_
      show IntKind.u8.wrap (opOf 105 (IntKind.i64.wrap (at1 la (ofN i).toNat)) (IntKind.i64.wrap (at1 lb (ofN i).toNat))) = eachOf 105 la lb i
      rw [toNat_ofN, ea, eb]
      have := opOf_range 105 (at1 la i) (at1 lb i)
      exact wrap8 (by omega)
    · have hi2 : i = 15 := by have := lt_f.1 hc; simp only [ofN] at this; omega
      subst hi2
      cbv
      refine .mk ?_
      cbv
      refine Chk.mk (arrOf_length _ _) ?_
      cbv
      refine Chk.mk (arrOf_length _ _) ?_
      cbv
      refine Chk.mk (arrOf_length _ _) ?_
      cbv
      refine Chk.mk (arrOf_length _ _) ?_
      cbv
      exact .mk _ _ h2 ⟨trivial, .mk (upto_full 15 _)⟩ trivial
theorem each_keeps_113 {la lb : List (List D)} (l1 : la.length = 15) (l2 : lb.length = 15) (hb : bytes15 la lb) {K : AV → Heap → Prop} (h2 : K (.arr [.int .u8] fun _ => arrOf 15 (eachOf 113 la lb)) []) :
    eFunc tab (env [(104, cRes 104), (105, cRes 105), (113, cRes 113), (128, cOf)]) (Try.f103.body.getD .skip) Try.f103.ntmps Try.f103.results.toList [.func (.func 113) [] [], .arr [.int .u8] fun _ => la, .arr [.int .u8] fun _ => lb] [] (Ret K) := by
  cbv
  refine Chk.mk l1 ?_
  cbv
  refine Chk.mk l2 ?_
  cbv
  refine loop_inv [0, 4, 5, 6, 7, 9] (fun (i : Nat) => i ≤ 15) (fun i => ⟨[.func (.func 113) [] [], .undef, .undef, .undef, .ptr 0 (.l 0) (.l 0), .ptr 1 (.l 0) (.l 0), .ptr 2 (.l 0) (.l 0), .ptr 3 (.l 0) (.l 0), .undef, .int .i64 (.t fun _ => ofN i),
      .undef, .undef, .undef, .undef, .undef, .undef, .undef, .undef, .undef, .undef, .undef, .undef, .undef, .undef, .undef, .undef, .undef],
    [some ⟨true, .rows [.int .u8] fun _ => la⟩, some ⟨true, .rows [.int .u8] fun _ => lb⟩, some ⟨true, .rows [.int .u8] fun _ => arrOf 15 (upto 0 (eachOf 113 la lb))⟩, some ⟨true, .rows [.int .u8] fun _ => arrOf 15 (upto i (eachOf 113 la lb))⟩]⟩)
    (fun i => 15 - i) 0 (Nat.zero_le _) ?_ ?_
  · cbv
    exact ⟨⟨.mk rfl, trivial⟩, .mk rfl, .mk rfl, .mk (upto_zero 15 _), .mk (upto_zero 15 _), trivial⟩
  · intro i R hi hR
    have i0 := ofN_nonneg i
    cbv
    refine Br.mk (fun hc => ?_) (fun hc => ?_)
    · have hi2 : i < 15 := by have := lt_t.1 hc; simp only [ofN] at this; omega
      cbv
      refine Chk.mk (ofN_in hi2) ?_
      cbv
      refine Chk.mk (ofN_in hi2) ?_
      cbv
      refine Chk.mk (ofN_len hi2 l1) ?_
      cbv
      refine Chk.mk (ofN_len hi2 l2) ?_
      cbv
      have ea : IntKind.i64.wrap (at1 la i) = at1 la i := by have := (hb i hi2).1; unfold byte at this; exact wrap64 (by omega)
      have eb : IntKind.i64.wrap (at1 lb i) = at1 lb i := by have := (hb i hi2).2; unfold byte at this; exact wrap64 (by omega)
      refine Chk.mk ?_ ?_
      · show -1000 ≤ IntKind.i64.wrap (at1 la (ofN i).toNat) ∧ IntKind.i64.wrap (at1 la (ofN i).toNat) ≤ 1000 ∧ -1000 ≤ IntKind.i64.wrap (at1 lb (ofN i).toNat) ∧ IntKind.i64.wrap (at1 lb (ofN i).toNat) ≤ 1000
        rw [toNat_ofN, ea, eb]
        have := hb i hi2
        unfold byte at this
        omega
      cbv
      refine Chk.mk (ofN_in hi2) ?_
      cbv
      refine Chk.mk (ofN_len hi2 (arrOf_length _ _)) ?_
      cbv
      refine Chk.mk (inR64 (by rw [aop_add]; simp only [ofN]; omega)) ?_
      cbv
      refine .mk (hR (i + 1) _ hi2 (by omega) ?_)
      cbv
      refine ⟨⟨.mk (ofN_succ i).symm, trivial⟩, .mk rfl, .mk rfl, .mk rfl, .mk ?_, trivial⟩
      refine upto_put hi2 (eachOf 113 la lb) _ ?_
      show IntKind.u8.wrap (opOf 113 (IntKind.i64.wrap (at1 la (ofN i).toNat)) (IntKind.i64.wrap (at1 lb (ofN i).toNat))) = eachOf 113 la lb i
      rw [toNat_ofN, ea, eb]
      have := opOf_range 113 (at1 la i) (at1 lb i)
      exact wrap8 (by omega)
    · have hi2 : i = 15 := by have := lt_f.1 hc; simp only [ofN] at this; omega
      subst hi2
      cbv
      refine .mk ?_
      cbv
      refine Chk.mk (arrOf_length _ _) ?_
      cbv
      refine Chk.mk (arrOf_length _ _) ?_
      cbv
      refine Chk.mk (arrOf_length _ _) ?_
      cbv
      refine Chk.mk (arrOf_length _ _) ?_
      cbv
      exact .mk _ _ h2 ⟨trivial, .mk (upto_full 15 _)⟩ trivial
theorem s103 : Sound Try.prog 103 cEach := by
  refine k103.kept tabOk e2 mixed o103 fun args h K hc => ?_
  unfold cEach at hc
  split at hc
  · rename_i g a b
    split at hc
    · split at hc
      · rename_i hg
        obtain ⟨la, hc, l1, w1⟩ := asRows_arr (by decide) hc
        obtain ⟨lb, hc, l2, w2⟩ := asRows_arr (by decide) hc
        cases hc with
        | mk h1 h2 =>
          have hg : g = 104 ∨ g = 105 ∨ g = 113 := by
            have := (memN_iff _ _).1 hg
            simpa using this
          rcases hg with rfl | rfl | rfl
          · exact ⟨_, [], Ent.cons (ent_refl _) (Ent.cons w1 (Ent.cons w2 Ent.nil)), trivial, each_keeps_104 l1 l2 h1 h2⟩
          · exact ⟨_, [], Ent.cons (ent_refl _) (Ent.cons w1 (Ent.cons w2 Ent.nil)), trivial, each_keeps_105 l1 l2 h1 h2⟩
          · exact ⟨_, [], Ent.cons (ent_refl _) (Ent.cons w1 (Ent.cons w2 Ent.nil)), trivial, each_keeps_113 l1 l2 h1 h2⟩
      · exact hc.elim
    · exact hc.elim
  · exact hc.elim
end Go.Proofs.Ytlgmbpnlakjefaa
