/- Put together by a program of this work out of its texts Bl4, Bl5, Bl6, Bl7, Bl8. -/
import Derived.Test.YtlgmbpnlakjefaaDoorM10
section
/- Contracts: the other party's table. -/
namespace Go.Proofs.YtlgmbpnlakjefaaDoor
open Go.Sy
set_option maxRecDepth 10000
set_option linter.unusedSimpArgs false
set_option linter.unusedVariables false
/-- is the sum of row and column, each less its shift, at most the limit? -/
def nearB (rc rs lim : Int) (i j : Nat) : Bool := cop .le (m31 (m31 (ofN i - rc) + m31 (ofN j - rs))) lim
/-- a row after some columns -/
def rowTo (rc rs lim x : Int) (i : Nat) : Nat → Int
  | 0 => x
  | j + 1 => match nearB rc rs lim i j with
    | true => aop (.bits .xor .u32) (rowTo rc rs lim x i j) (aop (.shl .u32) 1 (ofN j))
    | false => rowTo rc rs lim x i j
def otherOf (la : List (List D)) (rc rs lim : Int) (i : Nat) : Int := rowTo rc rs lim (at1 la i) i 31
def mixed2 (i : Nat) (f g : Nat → Int) (j : Nat) : Int := if j < i then f j else g j
theorem mixed2_put {n i : Nat} (hi : i < n) (f g : Nat → Int) : arrOf n (put1 (mixed2 i f g) i (f i)) = arrOf n (mixed2 (i + 1) f g) := by
  refine arrOf_congr fun j hj => ?_
  unfold put1 mixed2
  by_cases e : j = i
  · subst e; simp
  · simp only [e, if_false]
    by_cases e2 : j < i
    · rw [if_pos e2, if_pos (by omega)]
    · rw [if_neg e2, if_neg (by omega)]
theorem mixed2_id {n i : Nat} (f g : Nat → Int) : arrOf n (put1 (mixed2 i f g) i (g i)) = arrOf n (mixed2 i f g) := by
  refine arrOf_congr fun j hj => ?_
  unfold put1 mixed2
  by_cases e : j = i
  · subst e; simp
  · simp only [e, if_false]
theorem put1_put1 (n : Nat) (f : Nat → Int) (i : Nat) (x y : Int) : arrOf n (put1 (put1 f i x) i y) = arrOf n (put1 f i y) := by
  refine arrOf_congr fun j hj => ?_
  unfold put1
  by_cases e : j = i <;> simp [e]
def cOther : Con := fun args h K => match args with
  | [a, .int .u8 rc, .int .u8 rs, .int .i64 lim] => match h with
    | [] => asRows [.int .u32] 31 a fun la => Chk (fun _ => byte rc.v ∧ byte rs.v) fun _ => K (.arr [.int .u32] fun _ => arrOf 31 (otherOf (la ()) rc.v rs.v lim.v)) []
    | _ => False
  | _ => False
theorem other_keeps {f : Nat → Int} {g : Nat → Int} {rc rs lim : Int} (hg : g = fun i => rowTo rc rs lim (f i) i 31) (h1 : byte rc ∧ byte rs) {K : AV → Heap → Prop} (h2 : K (.arr [.int .u32] fun _ => arrOf 31 g) []) :
    eFunc tab (env [(70, cRes 70), (71, cOf)]) (Tryd.f63.body.getD .skip) Tryd.f63.ntmps Tryd.f63.results.toList [.arr [.int .u32] fun _ => arrOf 31 f, .int .u8 (.t fun _ => rc), .int .u8 (.t fun _ => rs), .int .i64 (.t fun _ => lim)] [] (Ret K) := by
  have wrc : IntKind.i64.wrap rc = rc := wrap64 (by unfold byte at h1; omega)
  have wrs : IntKind.i64.wrap rs = rs := wrap64 (by unfold byte at h1; omega)
  unfold byte at h1
  cbv
  refine Chk.mk (arrOf_length _ _) ?_
  cbv
  refine loop_inv [1, 2, 3, 4, 8, 11] (fun (i : Nat) => i ≤ 31) (fun i => ⟨[.undef, .int .u8 (.t fun _ => rc), .int .u8 (.t fun _ => rs), .int .i64 (.t fun _ => lim), .ptr 0 (.l 0) (.l 0), .undef, .undef, .undef, .ptr 1 (.l 0) (.l 0), .undef, .undef, .int .i64 (.t fun _ => ofN i), .undef, .undef, .undef, .undef, .undef, .undef, .undef, .undef, .undef, .undef, .undef, .undef, .undef, .undef, .undef, .undef, .undef, .undef, .undef, .undef, .undef, .undef, .undef, .undef, .undef, .undef, .undef, .undef], [some ⟨true, .rows [.int .u32] fun _ => arrOf 31 (mixed2 i g f)⟩, some ⟨true, .rows [.int .u32] fun _ => arrOf 31 (upto 0 f)⟩]⟩) (fun i => 31 - i) 0 (Nat.zero_le _) ?_ ?_
  · cbv
    exact ⟨⟨.mk rfl, .mk rfl, .mk rfl, .mk rfl, trivial⟩, .mk (arrOf_congr fun i _ => by simp [mixed2]), .mk (upto_zero 31 _), trivial⟩
  · intro i R hi hR
    have i0 := ofN_nonneg i
    cbv
    refine Br.mk (fun hc => ?_) (fun hc => ?_)
    · have hi2 : i < 31 := by have := lt_t.1 hc; simp only [ofN] at this; omega
      cbv
      refine loop_inv [1, 2, 3, 4, 8, 9, 11, 14] (fun (j : Nat) => j ≤ 31) (fun j => ⟨[.undef, .int .u8 (.t fun _ => rc), .int .u8 (.t fun _ => rs), .int .i64 (.t fun _ => lim), .ptr 0 (.l 0) (.l 0), .undef, .undef, .undef, .ptr 1 (.l 0) (.l 0), .int .i64 (.t fun _ => ofN i), .undef, .int .i64 (.t fun _ => ofN i), .undef, .undef, .int .i64 (.t fun _ => ofN j), .undef, .undef, .undef, .undef, .undef, .undef, .undef, .undef, .undef, .undef, .undef, .undef, .undef, .undef, .undef, .undef, .undef, .undef, .undef, .undef, .undef, .undef, .undef, .undef, .undef], [some ⟨true, .rows [.int .u32] fun _ => arrOf 31 (put1 (mixed2 i g f) i (rowTo rc rs lim (f i) i j))⟩, some ⟨true, .rows [.int .u32] fun _ => arrOf 31 (upto 0 f)⟩]⟩) (fun i => 31 - i) 0 (Nat.zero_le _) ?_ ?_
      · cbv
        exact ⟨⟨.mk rfl, .mk rfl, .mk rfl, .mk rfl, .mk rfl, .mk rfl, trivial⟩, .mk (mixed2_id g f).symm, .mk rfl, trivial⟩
      · intro j R2 hj hR2
        have j0 := ofN_nonneg j
        cbv
        refine Br.mk (fun hc2 => ?_) (fun hc2 => ?_)
        · have hj2 : j < 31 := by have := lt_t.1 hc2; simp only [ofN] at this; omega
          have hi3 : ofN i < 31 := by simp only [ofN]; omega
          have hj3 : ofN j < 31 := by simp only [ofN]; omega
          have q1 := m31_range (ofN i - rc)
          have q2 := m31_range (ofN j - rs)
          cbv
          refine Chk.mk (inR64 (by rw [aop_sub, wrc]; omega)) ?_
          cbv
          refine Chk.mk ((by show small (ofN i - IntKind.i64.wrap rc); rw [wrc]; unfold small; omega)) ?_
          cbv
          refine Chk.mk (inR64 (by rw [aop_sub, wrs]; omega)) ?_
          cbv
          refine Chk.mk ((by show small (ofN j - IntKind.i64.wrap rs); rw [wrs]; unfold small; omega)) ?_
          cbv
          refine Chk.mk ?_ ?_
          · show -1000 ≤ m31 (ofN i - IntKind.i64.wrap rc) ∧ m31 (ofN i - IntKind.i64.wrap rc) ≤ 1000 ∧ -1000 ≤ m31 (ofN j - IntKind.i64.wrap rs) ∧ m31 (ofN j - IntKind.i64.wrap rs) ≤ 1000
            rw [wrc, wrs]; omega
          cbv
          refine Br.mk (fun hn => ?_) (fun hn => ?_)
          · have hn : nearB rc rs lim i j = true := by
              have : cop .le (m31 (m31 (ofN i - IntKind.i64.wrap rc) + m31 (ofN j - IntKind.i64.wrap rs))) lim = true := hn
              rw [wrc, wrs] at this
              exact this
            cbv
            refine Chk.mk (ofN_in hi2) ?_
            cbv
            refine Chk.mk (j0) ?_
            cbv
            refine Chk.mk (ofN_len hi2 (arrOf_length _ _)) ?_
            cbv
            refine Chk.mk (ofN_in hi2) ?_
            cbv
            refine Chk.mk (ofN_len hi2 (arrOf_length _ _)) ?_
            cbv
            refine Chk.mk (inR64 (by rw [aop_add]; omega)) ?_
            cbv
            refine .mk (hR2 (j + 1) _ hj2 (by omega) ?_)
            cbv
            refine ⟨⟨.mk rfl, .mk rfl, .mk rfl, .mk rfl, .mk rfl, .mk (ofN_succ j).symm, trivial⟩, .mk ?_, .mk rfl, trivial⟩
            show (arrOf 31 (put1 (mixed2 i g f) i (rowTo rc rs lim (f i) i j))).set (ofN i).toNat (((arrOf 31 (put1 (mixed2 i g f) i (rowTo rc rs lim (f i) i j))).getD (ofN i).toNat []).set 0 (.i (aop (.bits .xor .u32) (at1 (arrOf 31 (put1 (mixed2 i g f) i (rowTo rc rs lim (f i) i j))) (ofN i).toNat) (aop (.shl .u32) 1 (ofN j))))) = _
            rw [toNat_ofN, at1_arrOf hi2, arrOf_set hi2, put1_put1]
            have e : put1 (mixed2 i g f) i (rowTo rc rs lim (f i) i j) i = rowTo rc rs lim (f i) i j := by simp [put1]
            rw [e]
            simp only [rowTo, hn]
          · have hn : nearB rc rs lim i j = false := by
              have : cop .le (m31 (m31 (ofN i - IntKind.i64.wrap rc) + m31 (ofN j - IntKind.i64.wrap rs))) lim = false := hn
              rw [wrc, wrs] at this
              exact this
            cbv
            refine Chk.mk (inR64 (by rw [aop_add]; omega)) ?_
            cbv
            refine .mk (hR2 (j + 1) _ hj2 (by omega) ?_)
            cbv
            refine ⟨⟨.mk rfl, .mk rfl, .mk rfl, .mk rfl, .mk rfl, .mk (ofN_succ j).symm, trivial⟩, .mk ?_, .mk rfl, trivial⟩
            simp only [rowTo, hn]
        · have hj2 : j = 31 := by have := lt_f.1 hc2; simp only [ofN] at this; omega
          subst hj2
          have hi3 : ofN i < 31 := by simp only [ofN]; omega
          cbv
          refine .mk ?_
          cbv
          refine Chk.mk (inR64 (by rw [aop_add]; omega)) ?_
          cbv
          refine .mk (hR (i + 1) _ hi2 (by omega) ?_)
          cbv
          refine ⟨⟨.mk rfl, .mk rfl, .mk rfl, .mk (ofN_succ i).symm, trivial⟩, .mk ?_, .mk rfl, trivial⟩
          have := mixed2_put hi2 g f
          rw [hg] at this ⊢
          exact this
    · have hi2 : i = 31 := by have := lt_f.1 hc; simp only [ofN] at this; omega
      subst hi2
      cbv
      refine .mk ?_
      cbv
      refine Chk.mk (arrOf_length _ _) ?_
      cbv
      refine Chk.mk (arrOf_length _ _) ?_
      cbv
      refine Chk.mk (arrOf_length _ _) ?_
      cbv
      refine Chk.mk (arrOf_length _ _) ?_
      cbv
      exact .mk _ _ h2 ⟨trivial, .mk (arrOf_congr fun i hi => by simp [mixed2, hi])⟩ trivial
theorem s63 : Sound Tryd.prog 63 cOther := by
  refine k63.kept tabOk (envOk_cons e1 s70 k70.callable) mixed o63 fun args h K hc => ?_
  unfold cOther at hc
  split at hc
  · rename_i a rc rs lim
    split at hc
    · obtain ⟨la, hc, l1, w1⟩ := asRows_ints hc
      cases hc with
      | mk h1 h2 => exact ⟨_, [], Ent.cons w1 (Ent.cons (ent_int _ _) (Ent.cons (ent_int _ _) (Ent.cons (ent_int _ _) Ent.nil))), trivial, other_keeps rfl h1 h2⟩
    · exact hc.elim
  · exact hc.elim
end Go.Proofs.YtlgmbpnlakjefaaDoor
end

section
/- Contracts: is one among the entries of a slice? -/
namespace Go.Proofs.YtlgmbpnlakjefaaDoor
open Go.Sy
set_option maxRecDepth 10000
set_option linter.unusedSimpArgs false
set_option linter.unusedVariables false
def cGe (k : IntKind) (m : Int) : Con := fun args h K => match args with
  | [.int k' a] => match kEq k' k with
    | true => match h with
      | [] => K (.bool (.t fun _ => cop .ge a.v m)) []
      | _ => False
    | false => False
  | _ => False
theorem s64 : Sound Tryd.prog 64 (cGe .u8 31) := by
  refine k64.kept tabOk envOk_nil mixed o64 fun args h K hc => ?_
  unfold cGe at hc
  split at hc
  · rename_i k a
    split at hc
    · rename_i hk
      obtain rfl := kEq_eq hk
      split at hc
      · refine ⟨_, [], Ent.cons (ent_int _ _) Ent.nil, trivial, ?_⟩
        cbv
        exact .mk _ _ hc (.mk rfl) trivial
      · exact hc.elim
    · exact hc.elim
  · exact hc.elim
theorem s67 : Sound Tryd.prog 67 (cGe .u32 2147483648) := by
  refine k67.kept tabOk envOk_nil mixed o67 fun args h K hc => ?_
  unfold cGe at hc
  split at hc
  · rename_i k a
    split at hc
    · rename_i hk
      obtain rfl := kEq_eq hk
      split at hc
      · refine ⟨_, [], Ent.cons (ent_int _ _) Ent.nil, trivial, ?_⟩
        cbv
        exact .mk _ _ hc (.mk rfl) trivial
      · exact hc.elim
    · exact hc.elim
  · exact hc.elim
/-- the first place with a property, or -1 -/
def idx (q : Nat → Bool) (n : Nat) : Int := match (List.range n).find? q with | some j => ofN j | none => -1
theorem idx_found {q : Nat → Bool} {n i : Nat} (hi : i < n) (hq : q i = true) (h : ∀ j, j < i → q j = false) : idx q n = ofN i := by
  have : (List.range n).find? q = some i := by
    rw [List.find?_range_eq_some]
    exact ⟨hq, List.mem_range.2 hi, fun j hj => by simp [h j hj]⟩
  simp only [idx, this]
theorem idx_none {q : Nat → Bool} {n : Nat} (h : ∀ j, j < n → q j = false) : idx q n = -1 := by
  have : (List.range n).find? q = none := by
    rw [List.find?_eq_none]
    intro j hj
    simp [h j (List.mem_range.1 hj)]
  simp only [idx, this]
/-- is an entry at least m? -/
def geAt (m : Int) (l : List (List D)) (i : Nat) (j : Nat) : Bool := cop .ge (at1 l (nadd i j)) m
def cIndex (k : IntKind) (g : Nat) (m : Int) : Con := fun args h K => match args with
  | [.sl 0 i (.l 0) 1 n c x, .func (.func g') [] []] => match Nat.beq g' g with
    | true => match h with
      | [some o] => match o.c with
        | .rows [.int k'] l => match kEq k' k with
          | true => Chk (fun _ => i.v + n.v ≤ (l ()).length ∧ n.v ≤ 1000000) fun _ => K (.int .i64 (.t fun _ => idx (geAt m (l ()) i.v) n.v)) [some o]
          | false => False
        | _ => False
      | _ => False
    | false => False
  | _ => False
theorem index8_keeps {l : List (List D)} {i n : Nat} {mt : Bool} (h1 : i + n ≤ l.length ∧ n ≤ 1000000) {K : AV → Heap → Prop} (h2 : K (.int .i64 (.t fun _ => idx (geAt 31 l i) n)) [some ⟨mt, .rows [.int .u8] fun _ => l⟩]) :
    eFunc tab (env [(64, cGe .u8 31)]) (Tryd.f72.body.getD .skip) Tryd.f72.ntmps Tryd.f72.results.toList [.sl 0 (.t fun _ => i) (.l 0) 1 (.t fun _ => n) (.t fun _ => n) false, .func (.func 64) [] []] [some ⟨mt, .rows [.int .u8] fun _ => l⟩] (Ret K) := by
  cbv
  refine loop_inv [0, 1, 7, 8] (fun (j : Nat) => j ≤ n ∧ ∀ k, k < j → geAt 31 l i k = false) (fun j => ⟨[.sl 0 (.t fun _ => i) (.l 0) 1 (.t fun _ => n) (.t fun _ => n) false, .func (.func 64) [] [], .undef, .undef, .undef, .undef, .undef, .int .i64 (.t fun _ => ofN n), .int .i64 (.t fun _ => ofN j), .undef, .undef, .undef, .undef, .undef, .undef, .undef, .undef, .undef, .undef], [some ⟨mt, .rows [.int .u8] fun _ => l⟩]⟩) (fun j => n - j) 0 ⟨Nat.zero_le _, fun k hk => by omega⟩ ?_ ?_
  · cbv
    repeat' first | apply And.intro | exact trivial | exact SameI.mk (by with_reducible rfl) | exact SameN.mk (by with_reducible rfl) | exact SameL.mk (by with_reducible rfl) | exact SameB.mk (by with_reducible rfl) | exact LeN.mk (by with_reducible exact Nat.le_refl _) | apply SameI.mk | apply SameN.mk | apply SameL.mk | apply SameB.mk | apply LeN.mk
    all_goals first | rfl | (cases mt <;> exact trivial)
  · intro j R ⟨hj, hno⟩ hR
    have j0 := ofN_nonneg j
    cbv
    refine Br.mk (fun hc => ?_) (fun hc => ?_)
    · have hj2 : j < n := ofN_lt.1 (lt_t.1 hc)
      cbv
      refine Chk.mk ⟨j0, by show ofN j < (n : Int); simp only [ofN]; omega⟩ ?_
      cbv
      refine Chk.mk ?_ ?_
      · show 0 ≤ ofN (nadd i (ofN j).toNat) ∧ ofN (nadd i (ofN j).toNat) < ((l.length : Nat) : Int)
        rw [toNat_ofN]; simp only [nadd, ofN]; omega
      cbv
      refine Br.mk (fun hg => ?_) (fun hg => ?_)
      · have hg : geAt 31 l i j = true := by
          have : cop .ge (at1 l (nadd i (ofN j).toNat)) 31 = true := hg
          rw [toNat_ofN] at this; exact this
        cbv
        refine .mk ?_
        cbv
        exact .mk _ _ h2 ⟨trivial, .mk (idx_found hj2 hg hno).symm⟩ (whs_rows _ _ _ _ rfl)
      · have hg : geAt 31 l i j = false := by
          have : cop .ge (at1 l (nadd i (ofN j).toNat)) 31 = false := hg
          rw [toNat_ofN] at this; exact this
        cbv
        refine Chk.mk (inR64 (by rw [aop_add]; simp only [ofN]; omega)) ?_
        cbv
        refine .mk (hR (j + 1) _ ⟨hj2, fun k hk => by rcases Nat.lt_or_ge k j with h | h; exact hno k h; rw [show k = j by omega]; exact hg⟩ (by omega) ?_)
        cbv
        repeat' first | apply And.intro | exact trivial | exact SameI.mk (by with_reducible rfl) | exact SameN.mk (by with_reducible rfl) | exact SameL.mk (by with_reducible rfl) | exact SameB.mk (by with_reducible rfl) | exact LeN.mk (by with_reducible exact Nat.le_refl _) | apply SameI.mk | apply SameN.mk | apply SameL.mk | apply SameB.mk | apply LeN.mk
        all_goals first | exact (ofN_succ j).symm | (cases mt <;> exact trivial)
    · have hj2 : j = n := by
        have := lt_f.1 hc
        rw [ofN_lt] at this
        omega
      subst hj2
      cbv
      refine .mk ?_
      cbv
      exact .mk _ _ h2 ⟨trivial, .mk (idx_none hno).symm⟩ (whs_rows _ _ _ _ rfl)
theorem index32_keeps {l : List (List D)} {i n : Nat} {mt : Bool} (h1 : i + n ≤ l.length ∧ n ≤ 1000000) {K : AV → Heap → Prop} (h2 : K (.int .i64 (.t fun _ => idx (geAt 2147483648 l i) n)) [some ⟨mt, .rows [.int .u32] fun _ => l⟩]) :
    eFunc tab (env [(67, cGe .u32 2147483648)]) (Tryd.f73.body.getD .skip) Tryd.f73.ntmps Tryd.f73.results.toList [.sl 0 (.t fun _ => i) (.l 0) 1 (.t fun _ => n) (.t fun _ => n) false, .func (.func 67) [] []] [some ⟨mt, .rows [.int .u32] fun _ => l⟩] (Ret K) := by
  cbv
  refine loop_inv [0, 1, 7, 8] (fun (j : Nat) => j ≤ n ∧ ∀ k, k < j → geAt 2147483648 l i k = false) (fun j => ⟨[.sl 0 (.t fun _ => i) (.l 0) 1 (.t fun _ => n) (.t fun _ => n) false, .func (.func 67) [] [], .undef, .undef, .undef, .undef, .undef, .int .i64 (.t fun _ => ofN n), .int .i64 (.t fun _ => ofN j), .undef, .undef, .undef, .undef, .undef, .undef, .undef, .undef, .undef, .undef], [some ⟨mt, .rows [.int .u32] fun _ => l⟩]⟩) (fun j => n - j) 0 ⟨Nat.zero_le _, fun k hk => by omega⟩ ?_ ?_
  · cbv
    repeat' first | apply And.intro | exact trivial | exact SameI.mk (by with_reducible rfl) | exact SameN.mk (by with_reducible rfl) | exact SameL.mk (by with_reducible rfl) | exact SameB.mk (by with_reducible rfl) | exact LeN.mk (by with_reducible exact Nat.le_refl _) | apply SameI.mk | apply SameN.mk | apply SameL.mk | apply SameB.mk | apply LeN.mk
    all_goals first | rfl | (cases mt <;> exact trivial)
  · intro j R ⟨hj, hno⟩ hR
    have j0 := ofN_nonneg j
    cbv
    refine Br.mk (fun hc => ?_) (fun hc => ?_)
    · have hj2 : j < n := ofN_lt.1 (lt_t.1 hc)
      cbv
      refine Chk.mk ⟨j0, by show ofN j < (n : Int); simp only [ofN]; omega⟩ ?_
      cbv
      refine Chk.mk ?_ ?_
      · show 0 ≤ ofN (nadd i (ofN j).toNat) ∧ ofN (nadd i (ofN j).toNat) < ((l.length : Nat) : Int)
        rw [toNat_ofN]; simp only [nadd, ofN]; omega
      cbv
      refine Br.mk (fun hg => ?_) (fun hg => ?_)
      · have hg : geAt 2147483648 l i j = true := by
          have : cop .ge (at1 l (nadd i (ofN j).toNat)) 2147483648 = true := hg
          rw [toNat_ofN] at this; exact this
        cbv
        refine .mk ?_
        cbv
        exact .mk _ _ h2 ⟨trivial, .mk (idx_found hj2 hg hno).symm⟩ (whs_rows _ _ _ _ rfl)
      · have hg : geAt 2147483648 l i j = false := by
          have : cop .ge (at1 l (nadd i (ofN j).toNat)) 2147483648 = false := hg
          rw [toNat_ofN] at this; exact this
        cbv
        refine Chk.mk (inR64 (by rw [aop_add]; simp only [ofN]; omega)) ?_
        cbv
        refine .mk (hR (j + 1) _ ⟨hj2, fun k hk => by rcases Nat.lt_or_ge k j with h | h; exact hno k h; rw [show k = j by omega]; exact hg⟩ (by omega) ?_)
        cbv
        repeat' first | apply And.intro | exact trivial | exact SameI.mk (by with_reducible rfl) | exact SameN.mk (by with_reducible rfl) | exact SameL.mk (by with_reducible rfl) | exact SameB.mk (by with_reducible rfl) | exact LeN.mk (by with_reducible exact Nat.le_refl _) | apply SameI.mk | apply SameN.mk | apply SameL.mk | apply SameB.mk | apply LeN.mk
        all_goals first | exact (ofN_succ j).symm | (cases mt <;> exact trivial)
    · have hj2 : j = n := by
        have := lt_f.1 hc
        rw [ofN_lt] at this
        omega
      subst hj2
      cbv
      refine .mk ?_
      cbv
      exact .mk _ _ h2 ⟨trivial, .mk (idx_none hno).symm⟩ (whs_rows _ _ _ _ rfl)
theorem s72 : Sound Tryd.prog 72 (cIndex .u8 64 31) := by
  refine k72.kept tabOk (envOk_cons envOk_nil s64 k64.callable) mixed o72 fun args h K hc => ?_
  unfold cIndex at hc
  split at hc
  · split at hc
    · rename_i hg
      obtain rfl := Nat.eq_of_beq_eq_true hg
      split at hc
      · rename_i o
        obtain ⟨mt, co⟩ := o
        simp only at hc
        split at hc
        · split at hc
          · rename_i hk
            obtain rfl := kEq_eq hk
            cases hc with
            | mk h1 h2 => exact ⟨_, _, Ent.cons (ent_sl _ _ _ _ _ _ _) (Ent.cons (ent_refl _) Ent.nil), whs_rows _ _ _ (fun _ => _) rfl, index8_keeps h1 h2⟩
          · exact hc.elim
        · exact hc.elim
      · exact hc.elim
    · exact hc.elim
  · exact hc.elim
theorem s73 : Sound Tryd.prog 73 (cIndex .u32 67 2147483648) := by
  refine k73.kept tabOk (envOk_cons envOk_nil s67 k67.callable) mixed o73 fun args h K hc => ?_
  unfold cIndex at hc
  split at hc
  · split at hc
    · rename_i hg
      obtain rfl := Nat.eq_of_beq_eq_true hg
      split at hc
      · rename_i o
        obtain ⟨mt, co⟩ := o
        simp only at hc
        split at hc
        · split at hc
          · rename_i hk
            obtain rfl := kEq_eq hk
            cases hc with
            | mk h1 h2 => exact ⟨_, _, Ent.cons (ent_sl _ _ _ _ _ _ _) (Ent.cons (ent_refl _) Ent.nil), whs_rows _ _ _ (fun _ => _) rfl, index32_keeps h1 h2⟩
          · exact hc.elim
        · exact hc.elim
      · exact hc.elim
    · exact hc.elim
  · exact hc.elim
def cContains (k : IntKind) (g : Nat) (m : Int) : Con := fun args h K => match args with
  | [.sl 0 i (.l 0) 1 n c x, .func (.func g') [] []] => match Nat.beq g' g with
    | true => match h with
      | [some o] => match o.c with
        | .rows [.int k'] l => match kEq k' k with
          | true => Chk (fun _ => i.v + n.v ≤ (l ()).length ∧ n.v ≤ 1000000) fun _ => K (.bool (.t fun _ => cop .ge (idx (geAt m (l ()) i.v) n.v) 0)) [some o]
          | false => False
        | _ => False
      | _ => False
    | false => False
  | _ => False
theorem contains8_keeps {l : List (List D)} {i n : Nat} {mt : Bool} (h1 : i + n ≤ l.length ∧ n ≤ 1000000) {K : AV → Heap → Prop} (h2 : K (.bool (.t fun _ => cop .ge (idx (geAt 31 l i) n) 0)) [some ⟨mt, .rows [.int .u8] fun _ => l⟩]) :
    eFunc tab (env [(72, cIndex .u8 64 31)]) (Tryd.f65.body.getD .skip) Tryd.f65.ntmps Tryd.f65.results.toList [.sl 0 (.t fun _ => i) (.l 0) 1 (.t fun _ => n) (.t fun _ => n) false, .func (.func 64) [] []] [some ⟨mt, .rows [.int .u8] fun _ => l⟩] (Ret K) := by
  cases mt
  · cbv
    refine Chk.mk (h1) ?_
    cbv
    exact .mk _ _ h2 (.mk rfl) (whs_rows _ _ _ _ rfl)
  · cbv
    refine Chk.mk (h1) ?_
    cbv
    exact .mk _ _ h2 (.mk rfl) (whs_rows _ _ _ _ rfl)
theorem contains32_keeps {l : List (List D)} {i n : Nat} {mt : Bool} (h1 : i + n ≤ l.length ∧ n ≤ 1000000) {K : AV → Heap → Prop} (h2 : K (.bool (.t fun _ => cop .ge (idx (geAt 2147483648 l i) n) 0)) [some ⟨mt, .rows [.int .u32] fun _ => l⟩]) :
    eFunc tab (env [(73, cIndex .u32 67 2147483648)]) (Tryd.f66.body.getD .skip) Tryd.f66.ntmps Tryd.f66.results.toList [.sl 0 (.t fun _ => i) (.l 0) 1 (.t fun _ => n) (.t fun _ => n) false, .func (.func 67) [] []] [some ⟨mt, .rows [.int .u32] fun _ => l⟩] (Ret K) := by
  cases mt
  · cbv
    refine Chk.mk (h1) ?_
    cbv
    exact .mk _ _ h2 (.mk rfl) (whs_rows _ _ _ _ rfl)
  · cbv
    refine Chk.mk (h1) ?_
    cbv
    exact .mk _ _ h2 (.mk rfl) (whs_rows _ _ _ _ rfl)
theorem s65 : Sound Tryd.prog 65 (cContains .u8 64 31) := by
  refine k65.kept tabOk (envOk_cons envOk_nil s72 k72.callable) mixed o65 fun args h K hc => ?_
  unfold cContains at hc
  split at hc
  · split at hc
    · rename_i hg
      obtain rfl := Nat.eq_of_beq_eq_true hg
      split at hc
      · rename_i o
        obtain ⟨mt, co⟩ := o
        simp only at hc
        split at hc
        · split at hc
          · rename_i hk
            obtain rfl := kEq_eq hk
            cases hc with
            | mk h1 h2 => exact ⟨_, _, Ent.cons (ent_sl _ _ _ _ _ _ _) (Ent.cons (ent_refl _) Ent.nil), whs_rows _ _ _ (fun _ => _) rfl, contains8_keeps h1 h2⟩
          · exact hc.elim
        · exact hc.elim
      · exact hc.elim
    · exact hc.elim
  · exact hc.elim
theorem s66 : Sound Tryd.prog 66 (cContains .u32 67 2147483648) := by
  refine k66.kept tabOk (envOk_cons envOk_nil s73 k73.callable) mixed o66 fun args h K hc => ?_
  unfold cContains at hc
  split at hc
  · split at hc
    · rename_i hg
      obtain rfl := Nat.eq_of_beq_eq_true hg
      split at hc
      · rename_i o
        obtain ⟨mt, co⟩ := o
        simp only at hc
        split at hc
        · split at hc
          · rename_i hk
            obtain rfl := kEq_eq hk
            cases hc with
            | mk h1 h2 => exact ⟨_, _, Ent.cons (ent_sl _ _ _ _ _ _ _) (Ent.cons (ent_refl _) Ent.nil), whs_rows _ _ _ (fun _ => _) rfl, contains32_keeps h1 h2⟩
          · exact hc.elim
        · exact hc.elim
      · exact hc.elim
    · exact hc.elim
  · exact hc.elim
end Go.Proofs.YtlgmbpnlakjefaaDoor
end

section
/- Contracts: parties and deals. -/
namespace Go.Proofs.YtlgmbpnlakjefaaDoor
open Go.Sy
set_option maxRecDepth 10000
set_option linter.unusedSimpArgs false
set_option linter.unusedVariables false
structure PartyX where
  m : Nat → Int
  s : Nat → Int
  sh : Int
  t : Nat → Int
def PartyX.cells (x : PartyX) : List AV := cI .u8 x.m 15 0 ++ (cI .u8 x.s 15 0 ++ (.int .u8 (.t fun _ => x.sh) :: cI .u32 x.t 31 0))
def anyGe (m : Int) (n : Nat) (f : Nat → Int) : Bool := (List.range n).any fun j => decide (m ≤ f j)
def partyB (x : PartyX) : Bool := !anyGe 31 15 x.m && !anyGe 31 15 x.s && !decide (31 ≤ x.sh) && !anyGe 2147483648 31 x.t
theorem any_idx {q : Nat → Bool} {n : Nat} : cop .ge (idx q n) 0 = (List.range n).any q := by
  unfold idx
  split
  · rename_i j hj
    have h1 : cop .ge (ofN j) 0 = true := ge_t.2 (ofN_nonneg j)
    exact h1.trans (List.any_eq_true.2 ⟨j, List.mem_of_find?_eq_some hj, by simpa using List.find?_some hj⟩).symm
  · rename_i hj
    rw [List.find?_eq_none] at hj
    have h1 : cop .ge (-1) 0 = false := ge_f.2 (by omega)
    exact h1.trans (List.any_eq_false.2 fun x hx => by simpa using hj x hx).symm
theorem any_range {n : Nat} {p q : Nat → Bool} (h : ∀ j, j < n → p j = q j) : (List.range n).any p = (List.range n).any q := by
  rw [Bool.eq_iff_iff, List.any_eq_true, List.any_eq_true]
  constructor
  · rintro ⟨j, hj, hp⟩; exact ⟨j, hj, by rw [← h j (List.mem_range.1 hj)]; exact hp⟩
  · rintro ⟨j, hj, hp⟩; exact ⟨j, hj, by rw [h j (List.mem_range.1 hj)]; exact hp⟩
theorem any_geAt {m : Int} {n : Nat} {l : List (List D)} {f : Nat → Int} (h : ∀ j, j < n → at1 l j = f j) : cop .ge (idx (geAt m l 0) n) 0 = anyGe m n f := by
  rw [any_idx]
  unfold anyGe
  refine any_range fun j hj => ?_
  unfold geAt
  rw [show nadd 0 j = j from by simp [nadd], h j hj]
  rfl
theorem e5 : EnvOk Tryd.prog (env [(65, cContains .u8 64 31), (66, cContains .u32 67 2147483648), (64, cGe .u8 31)]) :=
  envOk_cons (envOk_cons (envOk_cons envOk_nil s64 k64.callable) s66 k66.callable) s65 k65.callable
theorem bnot_t {x : Bool} : bnot x = true ↔ x = false := by cases x <;> simp [bnot]
theorem bnot_f {x : Bool} : bnot x = false ↔ x = true := by cases x <;> simp [bnot]
def cParty : Con := con (fun x : PartyX => [.agg x.cells]) (fun _ => []) (fun _ => True) (fun x K => K (.bool (.t fun _ => partyB x)) [])
theorem s55 : Sound Tryd.prog 55 cParty := by
  refine k55.con tabOk e5 mixed o55 fun x K _ h2 => ?_
  obtain ⟨m, s, sh, t⟩ := x
  have e1 := any_geAt (m := 31) (fun j (hj : j < 15) => at1_cI (k := .u8) (f := m) hj)
  have e2 := any_geAt (m := 31) (fun j (hj : j < 15) => at1_cI (k := .u8) (f := s) hj)
  have e3 := any_geAt (m := 2147483648) (fun j (hj : j < 31) => at1_cI (k := .u32) (f := t) hj)
  have e4 : cop .ge sh 31 = decide (31 ≤ sh) := rfl
  cbv
  refine Chk.mk ⟨Nat.le_refl _, by decide⟩ ?_
  cbv
  refine Br.mk (fun b1 => ?_) (fun b1 => ?_)
  · have b1 := e1.symm.trans (bnot_t.1 b1)
    cbv
    refine Chk.mk ⟨Nat.le_refl _, by decide⟩ ?_
    cbv
    refine Br.mk (fun b2 => ?_) (fun b2 => ?_)
    · have b2 := e2.symm.trans (bnot_t.1 b2)
      cbv
      refine Br.mk (fun b3 => ?_) (fun b3 => ?_)
      · have b3 := e4.symm.trans (bnot_t.1 b3)
        cbv
        refine Chk.mk ⟨Nat.le_refl _, by decide⟩ ?_
        cbv
        refine .mk _ _ h2 (.mk ?_) trivial
        refine (congrArg not e3).trans ?_
        simp [partyB, b1, b2, b3, BX.v]
      · have b3 := e4.symm.trans (bnot_f.1 b3)
        cbv
        refine .mk _ _ h2 (.mk ?_) trivial
        simp [partyB, b1, b2, b3, BX.v]
    · have b2 := e2.symm.trans (bnot_f.1 b2)
      cbv
      refine .mk _ _ h2 (.mk ?_) trivial
      simp [partyB, b1, b2, BX.v]
  · have b1 := e1.symm.trans (bnot_f.1 b1)
    cbv
    refine .mk _ _ h2 (.mk ?_) trivial
    simp [partyB, b1, BX.v]
structure DealX where
  a : Nat → Int
  b : Nat → Int
  u : Nat → Int
  rc : Int
  rs : Int
  t : Nat → Int
def DealX.cells (x : DealX) : List AV := cI .u8 x.a 15 0 ++ (cI .u8 x.b 15 0 ++ (cI .u8 x.u 15 0 ++ (.int .u8 (.t fun _ => x.rc) :: .int .u8 (.t fun _ => x.rs) :: cI .u32 x.t 31 0)))
def DealX.one (x : DealX) : PartyX := ⟨x.a, x.u, x.rc, x.t⟩
def DealX.two (x : DealX) : PartyX := ⟨x.b, fun _ => 0, x.rs, fun _ => 0⟩
def dealB (x : DealX) : Bool := partyB x.one && partyB x.two
def errI (b : Bool) (e : Int) : Int := match b with | true => 0 | false => e
theorem e6 : EnvOk Tryd.prog (env [(55, cParty)]) := envOk_cons envOk_nil s55 k55.callable
def cDeal : Con := con (fun x : DealX => [.agg x.cells]) (fun _ => []) (fun _ => True) (fun x K => K (.int .i64 (.t fun _ => errI (dealB x) 60)) [])
theorem s53 : Sound Tryd.prog 53 cDeal := by
  refine k53.con tabOk e6 mixed o53 fun x K _ h2 => ?_
  obtain ⟨a, b, u, rc, rs, t⟩ := x
  cbv
  refine ⟨DealX.one ⟨a, b, u, rc, rs, t⟩, trivial, Ent.of_wvs ?_, trivial, ?_⟩
  · cbv
    repeat' first | apply And.intro | exact trivial | exact SameI.mk (by with_reducible rfl) | exact SameN.mk (by with_reducible rfl) | exact SameL.mk (by with_reducible rfl) | exact SameB.mk (by with_reducible rfl) | exact LeN.mk (by with_reducible exact Nat.le_refl _) | apply SameI.mk | apply SameN.mk | apply SameL.mk | apply SameB.mk | apply LeN.mk
    all_goals rfl
  cbv
  refine Br.mk (fun b1 => ?_) (fun b1 => ?_)
  · have b1 := bnot_t.1 b1
    cbv
    refine .mk _ _ h2 ⟨trivial, .mk ?_⟩ trivial
    simp [dealB, b1, IX.v, errI]
  · have b1 := bnot_f.1 b1
    cbv
    refine ⟨DealX.two ⟨a, b, u, rc, rs, t⟩, trivial, Ent.of_wvs ?_, trivial, ?_⟩
    · cbv
      repeat' first | apply And.intro | exact trivial | exact SameI.mk (by with_reducible rfl) | exact SameN.mk (by with_reducible rfl) | exact SameL.mk (by with_reducible rfl) | exact SameB.mk (by with_reducible rfl) | exact LeN.mk (by with_reducible exact Nat.le_refl _) | apply SameI.mk | apply SameN.mk | apply SameL.mk | apply SameB.mk | apply LeN.mk
      all_goals rfl
    cbv
    refine Br.mk (fun b2 => ?_) (fun b2 => ?_)
    · have b2 := bnot_t.1 b2
      cbv
      refine .mk _ _ h2 ⟨trivial, .mk ?_⟩ trivial
      simp [dealB, b1, b2, IX.v, errI]
    · have b2 := bnot_f.1 b2
      cbv
      refine .mk _ _ h2 ⟨trivial, .mk ?_⟩ trivial
      simp [dealB, b1, b2, IX.v, errI]
def DealX.wf (x : DealX) : Prop := (∀ i, byte (x.a i)) ∧ (∀ i, byte (x.b i)) ∧ (∀ i, byte (x.u i)) ∧ byte x.rc ∧ byte x.rs
/-- the share of the second party -/
def DealX.v (x : DealX) (i : Nat) : Int := opOf 61 (opOf 62 (x.a i) (x.b i)) (x.u i)
def DealX.snd (x : DealX) (lim : Int) : PartyX := ⟨x.b, x.v, x.rs, fun i => rowTo x.rc x.rs lim (x.t i) i 31⟩
theorem e7 : EnvOk Tryd.prog (env [(60, cEach), (63, cOther)]) := envOk_cons (envOk_cons envOk_nil s63 k63.callable) s60 k60.callable
def cParties0 : Con := con (fun x : DealX × Int => [.agg x.1.cells, .int .i64 (.t fun _ => x.2)]) (fun _ => []) (fun x => x.1.wf) (fun x K => K (.tuple [.agg x.1.one.cells, .agg (x.1.snd x.2).cells]) [])
theorem s54 : Sound Tryd.prog 54 cParties0 := by
  refine k54.con tabOk e7 mixed o54 fun x K hw h2 => ?_
  obtain ⟨⟨a, b, u, rc, rs, t⟩, lim⟩ := x
  obtain ⟨ha, hb, hu, hrc, hrs⟩ := hw
  have hb1 : bytes15 (rowsOf 1 15 (cI .u8 a 15 0)) (rowsOf 1 15 (cI .u8 b 15 0)) := fun i hi => by rw [at1_cI hi, at1_cI hi]; exact ⟨ha i, hb i⟩
  have hb2 : ∀ f g, bytes15 (arrOf 15 (eachOf 62 f g)) (rowsOf 1 15 (cI .u8 u 15 0)) := fun f g i hi => by
    rw [at1_cI hi, at1_arrOf hi]
    refine ⟨?_, hu i⟩
    have := opOf_range 62 (at1 f i) (at1 g i)
    unfold byte eachOf
    omega
  have hr : byte rc ∧ byte rs := ⟨hrc, hrs⟩
  cbv
  repeat' first | refine And.intro ?_ ?_ | (refine Chk.mk hb1 ?_; cbv) | (refine Chk.mk (hb2 _ _) ?_; cbv) | (refine Chk.mk (arrOf_length _ _) ?_; cbv) | (refine Chk.mk hr ?_; cbv) | (refine Chk.mk (rowsOf_length _ _ _) ?_; cbv) | fail
  all_goals
    refine .mk _ _ h2 ?_ trivial
    cbv
    repeat' first | apply And.intro | exact trivial | exact SameI.mk (by with_reducible rfl) | exact SameN.mk (by with_reducible rfl) | exact SameL.mk (by with_reducible rfl) | exact SameB.mk (by with_reducible rfl) | exact LeN.mk (by with_reducible exact Nat.le_refl _) | apply SameI.mk | apply SameN.mk | apply SameL.mk | apply SameB.mk | apply LeN.mk
    all_goals rfl
end Go.Proofs.YtlgmbpnlakjefaaDoor
end

section
/- Contracts: what a dealer gives to two parties. -/
namespace Go.Proofs.YtlgmbpnlakjefaaDoor
open Go.Sy
set_option maxRecDepth 10000
set_option maxHeartbeats 2000000
set_option linter.unusedSimpArgs false
set_option linter.unusedVariables false
theorem e8 : EnvOk Tryd.prog (env [(53, cDeal), (54, cParties0)]) := envOk_cons (envOk_cons envOk_nil s54 k54.callable) s53 k53.callable
def cParties : Con := con (fun x : DealX × Int => [.agg x.1.cells, .int .i64 (.t fun _ => x.2)]) (fun _ => []) (fun x => x.1.wf ∧ dealB x.1 = true ∧ 0 ≤ x.2 ∧ x.2 ≤ 15)
  (fun x K => K (.tuple [.agg x.1.one.cells, .agg (x.1.snd x.2).cells, .int .i64 (.l 0)]) [])
theorem s38 : Sound Tryd.prog 38 cParties := by
  refine k38.con tabOk e8 mixed o38 fun x K hw h2 => ?_
  obtain ⟨⟨a, b, u, rc, rs, t⟩, lim⟩ := x
  obtain ⟨hw, hd, hl0, hl1⟩ := hw
  have hd : dealB ⟨a, b, u, rc, rs, t⟩ = true := hd
  have hl0 : 0 ≤ lim := hl0
  have hl1 : lim ≤ 15 := hl1
  cbv
  refine ⟨⟨a, b, u, rc, rs, t⟩, trivial, Ent.of_wvs ?_, trivial, ?_⟩
  · cbv
    repeat' first | apply And.intro | exact trivial | exact SameI.mk (by with_reducible rfl) | exact SameN.mk (by with_reducible rfl) | exact SameL.mk (by with_reducible rfl) | exact SameB.mk (by with_reducible rfl) | exact LeN.mk (by with_reducible exact Nat.le_refl _) | apply SameI.mk | apply SameN.mk | apply SameL.mk | apply SameB.mk | apply LeN.mk
    all_goals rfl
  cbv
  refine Br.mk (fun b1 => ?_) (fun b1 => ?_)
  · rw [hd] at b1
    cases b1
  cbv
  refine Br.mk (fun b2 => ?_) (fun b2 => ?_)
  · have := lt_t.1 b2; omega
  cbv
  refine Br.mk (fun b3 => ?_) (fun b3 => ?_)
  · have := gt_t.1 b3; omega
  cbv
  refine ⟨(⟨a, b, u, rc, rs, t⟩, lim), hw, Ent.of_wvs ?_, trivial, ?_⟩
  · cbv
    repeat' first | apply And.intro | exact trivial | exact SameI.mk (by with_reducible rfl) | exact SameN.mk (by with_reducible rfl) | exact SameL.mk (by with_reducible rfl) | exact SameB.mk (by with_reducible rfl) | exact LeN.mk (by with_reducible exact Nat.le_refl _) | apply SameI.mk | apply SameN.mk | apply SameL.mk | apply SameB.mk | apply LeN.mk
    all_goals rfl
  cbv
  repeat' first | refine And.intro ?_ ?_ | fail
  all_goals
    refine .mk _ _ h2 ?_ trivial
    cbv
    repeat' first | apply And.intro | exact trivial | exact SameI.mk (by with_reducible rfl) | exact SameN.mk (by with_reducible rfl) | exact SameL.mk (by with_reducible rfl) | exact SameB.mk (by with_reducible rfl) | exact LeN.mk (by with_reducible exact Nat.le_refl _) | apply SameI.mk | apply SameN.mk | apply SameL.mk | apply SameB.mk | apply LeN.mk
    all_goals rfl
end Go.Proofs.YtlgmbpnlakjefaaDoor
end

section
/- Contracts: the talk of two parties. -/
namespace Go.Proofs.YtlgmbpnlakjefaaDoor
open Go.Sy
set_option maxRecDepth 100000
set_option maxHeartbeats 1000000
set_option linter.unusedSimpArgs false
set_option linter.unusedVariables false
def countF (w p : Nat → Int) : Nat → Int
  | 0 => 0
  | i + 1 => opOf 61 (opOf 70 (countF w p i) (w i)) (opOf 62 2 (p i))
theorem countTo_eq {lw lp : List (List D)} {w p : Nat → Int} : ∀ {n : Nat}, (∀ i, i < n → at1 lw i = w i ∧ at1 lp i = p i) → countTo lw lp n = countF w p n
  | 0, _ => rfl
  | n + 1, h => by
    simp only [countTo, countF, countTo_eq (n := n) fun i hi => h i (by omega), (h n (by omega)).1, (h n (by omega)).2]
theorem countF_range (w p : Nat → Int) (i : Nat) : 0 ≤ countF w p i ∧ countF w p i < 31 := by
  cases i with
  | zero => simp [countF]
  | succ i => exact opOf_range _ _ _
theorem u8_range (n : Int) : byte (IntKind.u8.wrap n) := by
  simp only [byte, IntKind.wrap, IntKind.bits, IntKind.signed]
  simp
  omega
theorem bitU_byte (w : Int) (i : Nat) : byte (bitU w i) := u8_range _
def bitB (t s : Int) : Bool := cop .eq (aop (.bits .and .u32) (aop (.shr .u32) t s) 1) 1
def PartyX.wf (x : PartyX) : Prop := (∀ i, byte (x.m i)) ∧ (∀ i, byte (x.s i)) ∧ byte x.sh
section
variable (p q : PartyX) (x y : Int)
def tkD (i : Nat) : Int := opOf 61 (bitU x i) (p.m i)
def tkE (i : Nat) : Int := opOf 61 (bitU y i) (q.m i)
def tkC : Int := opOf 70 (countF (bitU x) (fun i => opOf 70 (opOf 62 (p.m i) (tkE q y i)) (p.s i)) 15) p.sh
def tkS : Int := opOf 70 (countF (bitU y) (fun i => opOf 70 (opOf 62 (tkD p x i) (opOf 70 (q.m i) (tkE q y i))) (q.s i)) 15) q.sh
def tkL : Bool := bitB (p.t (tkC p q x y).toNat) (tkS p q x y)
def tkR : Bool := bitB (q.t (tkC p q x y).toNat) (tkS p q x y)
def tkM : Bool := bnot (beqv (tkL p q x y) (tkR p q x y))
def talkCells : List AV := cI .u8 (tkD p x) 15 0 ++ (cI .u8 (tkE q y) 15 0 ++ [.int .u8 (.t fun _ => tkC p q x y), .int .u8 (.t fun _ => tkS p q x y), .bool (.t fun _ => tkL p q x y), .bool (.t fun _ => tkR p q x y), .bool (.t fun _ => tkM p q x y)])
end
/-- a contract said anew -/
theorem _root_.Go.Sy.Sound.re {P : Program} {f : FuncId} {C : Con} (hS : Sound P f C) {X : Type} {A : X → List AV} {H : X → Heap} {pre : X → Prop} {post : X → (AV → Heap → Prop) → Prop}
    (hC : ∀ x K, pre x → post x K → C (A x) (H x) K) : Sound P f (Go.Sy.con A H pre post) :=
  fun s h args vals K hh hv ⟨x, h1, h2, h3, h4⟩ => hS s (H x) (A x) vals K (wh_ok hh h3) (h2 s vals hv) (hC x K h1 h4)
theorem opOf_byte (g : Nat) (x y : Int) : byte (opOf g x y) := by have := opOf_range g x y; unfold byte; omega
def cEachF : Con := con (fun x : Nat × (Nat → Int) × (Nat → Int) => [.func (.func x.1) [] [], .arr [.int .u8] fun _ => arrOf 15 x.2.1, .arr [.int .u8] fun _ => arrOf 15 x.2.2]) (fun _ => [])
  (fun x => memN [61, 62, 70] x.1 = true ∧ (∀ i, byte (x.2.1 i)) ∧ ∀ i, byte (x.2.2 i)) (fun x K => K (.arr [.int .u8] fun _ => arrOf 15 fun i => opOf x.1 (x.2.1 i) (x.2.2 i)) [])
theorem s60' : Sound Tryd.prog 60 cEachF := s60.re fun x K h1 h2 => by
  obtain ⟨g, f, h⟩ := x
  obtain ⟨hg, hf, hh⟩ := h1
  have e : (fun i => opOf g (f i) (h i)) = fun i => opOf g (f i) (h i) := rfl
  have e2 : arrOf 15 (eachOf g (arrOf 15 f) (arrOf 15 h)) = arrOf 15 fun i => opOf g (f i) (h i) := arrOf_congr fun i hi => by unfold eachOf; rw [at1_arrOf hi, at1_arrOf hi]
  have hb : bytes15 (arrOf 15 f) (arrOf 15 h) := fun i hi => by rw [at1_arrOf hi, at1_arrOf hi]; exact ⟨hf i, hh i⟩
  show match memN [61, 62, 70] g with | true => _ | false => False
  have hg : memN [61, 62, 70] g = true := hg
  rw [hg]
  refine Chk.mk (arrOf_length _ _) (Chk.mk (arrOf_length _ _) (Chk.mk hb ?_))
  rw [e2]
  exact h2
def cCountF : Con := con (fun x : (Nat → Int) × (Nat → Int) => [.arr [.int .u8] fun _ => arrOf 15 x.1, .arr [.int .u8] fun _ => arrOf 15 x.2]) (fun _ => [])
  (fun x => (∀ i, byte (x.1 i)) ∧ ∀ i, byte (x.2 i)) (fun x K => K (.int .i64 (.t fun _ => countF x.1 x.2 15)) [])
theorem s69' : Sound Tryd.prog 69 cCountF := s69.re fun x K h1 h2 => by
  obtain ⟨f, h⟩ := x
  obtain ⟨hf, hh⟩ := h1
  have e2 : countTo (arrOf 15 f) (arrOf 15 h) 15 = countF f h 15 := countTo_eq fun i hi => ⟨at1_arrOf hi, at1_arrOf hi⟩
  have hb : bytes15 (arrOf 15 f) (arrOf 15 h) := fun i hi => by rw [at1_arrOf hi, at1_arrOf hi]; exact ⟨hf i, hh i⟩
  refine Chk.mk (arrOf_length _ _) (Chk.mk (arrOf_length _ _) (Chk.mk hb ?_))
  rw [e2]
  exact h2
theorem e9 : EnvOk Tryd.prog (env [(60, cEachF), (68, cMasks), (69, cCountF), (70, cRes 70)]) :=
  envOk_cons (envOk_cons (envOk_cons (envOk_cons envOk_nil s70 k70.callable) s69' k69.callable) s68 k68.callable) s60' k60.callable
theorem kEq_refl (k : IntKind) : kEq k k = true := by cases k <;> rfl
theorem fits_cI (k : IntKind) (f : Nat → Int) : ∀ (n j : Nat), fits [.int k] n (cI k f n j) = true
  | 0, _ => rfl
  | n + 1, j => by
    have h := fits_cI k f n (j + 1)
    have e : Go.Sy.part (.int k (.t fun _ => f j) :: cI k f n (j + 1)) 0 1 = some [.int k (.t fun _ => f j)] := by simp [Go.Sy.part, dropX, takeX]
    simp only [fits, cI, len, e, kdsOf, kdOf, sigEq, kdEq, kEq_refl, dropX]
    exact h
theorem rows_cI (k : IntKind) (f : Nat → Int) : ∀ (n j : Nat), rowsOf 1 n (cI k f n j) = (List.range' j n).map fun i => [D.i (f i)]
  | 0, _ => rfl
  | n + 1, j => by
    have h := rows_cI k f n (j + 1)
    simp only [cI, rowsOf, List.range'_succ, List.map_cons, List.take_succ_cons, List.take_zero, List.drop_succ_cons, List.drop_zero, h]
    rfl
theorem ent_cI (k : IntKind) (n : Nat) (f : Nat → Int) : ∀ (s : Sit) (v : Value), VRel s (.agg (cI k f n 0)) v → VRel s (.arr [.int k] fun _ => arrOf n f) v := by
  intro s v h
  have ha : asRows [.int k] n (.agg (cI k f n 0)) (fun l => l = fun _ => rowsOf 1 n (cI k f n 0)) := by
    unfold asRows
    simp only [fits_cI]
    rfl
  obtain ⟨l, rfl, _, h3⟩ := asRows_arr (by simp) ha
  have h4 := h3 s v h
  rw [rows_cI, ← List.range_eq_range'] at h4
  exact h4
def cPlay0 : Con := con (fun x : PartyX × PartyX × Int × Int => [.agg x.1.cells, .agg x.2.1.cells, .int .u16 (.t fun _ => x.2.2.1), .int .u16 (.t fun _ => x.2.2.2)]) (fun _ => [])
  (fun x => x.1.wf ∧ x.2.1.wf) (fun x K => K (.agg (talkCells x.1 x.2.1 x.2.2.1 x.2.2.2)) [])
attribute [local irreducible] countF opOf
theorem s56 : Sound Tryd.prog 56 cPlay0 := by
  refine k56.conS tabOk e9 mixed fun x K hw h2 => ?_
  obtain ⟨⟨A, U, sh1, t1⟩, ⟨B, V, sh2, t2⟩, x, y⟩ := x
  obtain ⟨⟨hA, hU, hs1⟩, ⟨hB, hV, hs2⟩⟩ := hw
  dsimp only at hA hB hU hV hs1 hs2 h2 ⊢
  have hD : ∀ i, byte (opOf 61 (bitU x i) (A i)) := fun i => opOf_byte _ _ _
  have hE : ∀ i, byte (opOf 61 (bitU y i) (B i)) := fun i => opOf_byte _ _ _
  apply SCode.seq
  · refine SCode.of_E tabOk e9 mixed (by kernel_rfl) ?_
    cbv
    all_goals exact At.mk (.inl rfl)
  apply SCode.seq
  · refine SCode.of_E tabOk e9 mixed (by kernel_rfl) ?_
    cbv
    all_goals exact At.mk (.inl rfl)
  apply SCode.seq
  · refine SCode.of_E tabOk e9 mixed (by kernel_rfl) ?_
    cbv
    repeat'
      first
      | refine And.intro ?_ ?_
      | (refine Chk.mk (arrOf_length _ _) ?_; cbv)
      | (refine Chk.mk (rowsOf_length _ _ _) ?_; cbv)
      | fail
    all_goals exact At.mk (.inl rfl)
  apply SCode.seq
  · refine SCode.of_E tabOk e9 mixed (by kernel_rfl) ?_
    cbv
    repeat'
      first
      | refine And.intro ?_ ?_
      | (refine ⟨(61, bitU x, A), ⟨rfl, bitU_byte x, hA⟩, Ent.cons (ent_refl _) (Ent.cons (ent_refl _) (Ent.cons (ent_cI _ 15 A) Ent.nil)), trivial, ?_⟩; cbv)
      | (refine ⟨(61, bitU y, B), ⟨rfl, bitU_byte y, hB⟩, Ent.cons (ent_refl _) (Ent.cons (ent_refl _) (Ent.cons (ent_cI _ 15 B) Ent.nil)), trivial, ?_⟩; cbv)
      | (refine Chk.mk (arrOf_length _ _) ?_; cbv)
      | (refine Chk.mk (rowsOf_length _ _ _) ?_; cbv)
      | fail
    all_goals exact At.mk (.inl rfl)
  apply SCode.seq
  · refine SCode.of_E tabOk e9 mixed (by kernel_rfl) ?_
    cbv
    repeat'
      first
      | refine And.intro ?_ ?_
      | (refine ⟨(62, A, fun i => opOf 61 (bitU y i) (B i)), ⟨rfl, hA, hE⟩, Ent.cons (ent_refl _) (Ent.cons (ent_cI _ 15 A) (Ent.cons (ent_cI _ 15 fun i => opOf 61 (bitU y i) (B i)) Ent.nil)), trivial, ?_⟩; cbv)
      | (refine ⟨(70, fun i => opOf 62 (A i) (opOf 61 (bitU y i) (B i)), U), ⟨rfl, by intro i; dsimp only; exact opOf_byte _ _ _, hU⟩, Ent.cons (ent_refl _) (Ent.cons (ent_refl _) (Ent.cons (ent_cI _ 15 U) Ent.nil)), trivial, ?_⟩; cbv)
      | (refine ⟨(bitU x, fun i => opOf 70 (opOf 62 (A i) (opOf 61 (bitU y i) (B i))) (U i)), ⟨bitU_byte x, by intro i; dsimp only; exact opOf_byte _ _ _⟩, Ent.cons (ent_refl _) (Ent.cons (ent_refl _) Ent.nil), trivial, ?_⟩; cbv)
      | (refine Chk.mk (arrOf_length _ _) ?_; cbv)
      | (refine Chk.mk (rowsOf_length _ _ _) ?_; cbv)
      | fail
    all_goals exact At.mk (.inl rfl)
  apply SCode.seq
  · refine SCode.of_E tabOk e9 mixed (by kernel_rfl) ?_
    cbv
    repeat'
      first
      | refine And.intro ?_ ?_
      | (refine ⟨(70, B, fun i => opOf 61 (bitU y i) (B i)), ⟨rfl, hB, hE⟩, Ent.cons (ent_refl _) (Ent.cons (ent_cI _ 15 B) (Ent.cons (ent_cI _ 15 fun i => opOf 61 (bitU y i) (B i)) Ent.nil)), trivial, ?_⟩; cbv)
      | (refine ⟨(62, fun i => opOf 61 (bitU x i) (A i), fun i => opOf 70 (B i) (opOf 61 (bitU y i) (B i))), ⟨rfl, hD, by intro i; dsimp only; exact opOf_byte _ _ _⟩, Ent.cons (ent_refl _) (Ent.cons (ent_cI _ 15 fun i => opOf 61 (bitU x i) (A i)) (Ent.cons (ent_refl _) Ent.nil)), trivial, ?_⟩; cbv)
      | (refine ⟨(70, fun i => opOf 62 (opOf 61 (bitU x i) (A i)) (opOf 70 (B i) (opOf 61 (bitU y i) (B i))), V), ⟨rfl, by intro i; dsimp only; exact opOf_byte _ _ _, hV⟩, Ent.cons (ent_refl _) (Ent.cons (ent_refl _) (Ent.cons (ent_cI _ 15 V) Ent.nil)), trivial, ?_⟩; cbv)
      | (refine ⟨(bitU y, fun i => opOf 70 (opOf 62 (opOf 61 (bitU x i) (A i)) (opOf 70 (B i) (opOf 61 (bitU y i) (B i)))) (V i)), ⟨bitU_byte y, by intro i; dsimp only; exact opOf_byte _ _ _⟩, Ent.cons (ent_refl _) (Ent.cons (ent_refl _) Ent.nil), trivial, ?_⟩; cbv)
      | (refine Chk.mk (arrOf_length _ _) ?_; cbv)
      | (refine Chk.mk (rowsOf_length _ _ _) ?_; cbv)
      | fail
    all_goals exact At.mk (.inl rfl)
  have wsh1 : IntKind.i64.wrap sh1 = sh1 := wrap64 (by unfold byte at hs1; omega)
  have wsh2 : IntKind.i64.wrap sh2 = sh2 := wrap64 (by unfold byte at hs2; omega)
  have wc : ∀ (f h : Nat → Int) (sh : Int), IntKind.u8.wrap (opOf 70 (countF f h 15) (IntKind.i64.wrap sh)) = opOf 70 (countF f h 15) (IntKind.i64.wrap sh) := fun f h sh => wrap8 (by have := opOf_range 70 (countF f h 15) (IntKind.i64.wrap sh); omega)
  have q1 : ∀ (f h : Nat → Int), -1000 ≤ countF f h 15 ∧ countF f h 15 ≤ 1000 ∧ -1000 ≤ IntKind.i64.wrap sh1 ∧ IntKind.i64.wrap sh1 ≤ 1000 := fun f h => by
    have := countF_range f h 15
    unfold byte at hs1
    omega
  have q2 : ∀ (f h : Nat → Int), -1000 ≤ countF f h 15 ∧ countF f h 15 ≤ 1000 ∧ -1000 ≤ IntKind.i64.wrap sh2 ∧ IntKind.i64.wrap sh2 ≤ 1000 := fun f h => by
    have := countF_range f h 15
    unfold byte at hs2
    omega
  apply SCode.seq
  · refine SCode.of_E tabOk e9 mixed (by kernel_rfl) ?_
    cbv
    repeat'
      first
      | refine And.intro ?_ ?_
      | (refine Chk.mk (q1 (bitU x) _) ?_; cbv)
      | (refine Chk.mk (q2 (bitU y) _) ?_; cbv)
      | (refine Chk.mk (arrOf_length _ _) ?_; cbv)
      | (refine Chk.mk (rowsOf_length _ _ _) ?_; cbv)
      | fail
    all_goals exact At.mk (.inl rfl)
  have q3 : ∀ (f h : Nat → Int) (sh : Int), 0 ≤ IntKind.u8.wrap (opOf 70 (countF f h 15) (IntKind.i64.wrap sh)) ∧ IntKind.u8.wrap (opOf 70 (countF f h 15) (IntKind.i64.wrap sh)) < ((NX.l 31).v : Int) := fun f h sh => by
    have := opOf_range 70 (countF f h 15) (IntKind.i64.wrap sh)
    rw [wc]
    simp only [NX.v]
    omega
  have q4 : ∀ (f h : Nat → Int) (sh : Int), 31 ≤ nadd 31 (IntKind.u8.wrap (opOf 70 (countF f h 15) (IntKind.i64.wrap sh))).toNat ∧ nadd 31 (IntKind.u8.wrap (opOf 70 (countF f h 15) (IntKind.i64.wrap sh))).toNat < 31 + 31 := fun f h sh => by
    have := q3 f h sh
    simp only [NX.v] at this
    simp only [nadd]
    omega
  apply SCode.seq
  · refine SCode.of_E tabOk e9 mixed (by kernel_rfl) ?_
    cbv
    refine Chk.mk (q3 (bitU x) _ sh1) ?_
    cbv
    refine ⟨31, 31, ?_⟩
    cbv
    refine Chk.mk (q4 (bitU x) _ sh1) ?_
    cbv
    refine Chk.mk (q3 (bitU y) _ sh2).1 ?_
    cbv
    refine Chk.mk (q3 (bitU x) _ sh1) ?_
    cbv
    refine ⟨31, 31, ?_⟩
    cbv
    refine Chk.mk (q4 (bitU x) _ sh1) ?_
    cbv
    refine Chk.mk (q3 (bitU y) _ sh2).1 ?_
    cbv
    repeat'
      first
      | refine And.intro ?_ ?_
      | (refine Chk.mk (arrOf_length _ _) ?_; cbv)
      | (refine Chk.mk (rowsOf_length _ _ _) ?_; cbv)
      | fail
    all_goals exact At.mk (.inl rfl)
  have eC : IntKind.u8.wrap (opOf 70 (countF (bitU x) (fun i => opOf 70 (opOf 62 (A i) (opOf 61 (bitU y i) (B i))) (U i)) 15) (IntKind.i64.wrap sh1)) = tkC ⟨A, U, sh1, t1⟩ ⟨B, V, sh2, t2⟩ x y := by
    rw [wc, wsh1]; rfl
  have eS : IntKind.u8.wrap (opOf 70 (countF (bitU y) (fun i => opOf 70 (opOf 62 (opOf 61 (bitU x i) (A i)) (opOf 70 (B i) (opOf 61 (bitU y i) (B i)))) (V i)) 15) (IntKind.i64.wrap sh2)) = tkS ⟨A, U, sh1, t1⟩ ⟨B, V, sh2, t2⟩ x y := by
    rw [wc, wsh2]; rfl
  have eT : ∀ t : Nat → Int, at1 (rowsOf 1 31 (cI .u32 t 31 0)) (nsub (nadd 31 (IntKind.u8.wrap (opOf 70 (countF (bitU x) (fun i => opOf 70 (opOf 62 (A i) (opOf 61 (bitU y i) (B i))) (U i)) 15) (IntKind.i64.wrap sh1))).toNat) 31) = t (tkC ⟨A, U, sh1, t1⟩ ⟨B, V, sh2, t2⟩ x y).toNat := fun t => by
    have h := (q3 (bitU x) (fun i => opOf 70 (opOf 62 (A i) (opOf 61 (bitU y i) (B i))) (U i)) sh1)
    rw [eC] at h ⊢
    simp only [NX.v] at h
    rw [show nsub (nadd 31 (tkC ⟨A, U, sh1, t1⟩ ⟨B, V, sh2, t2⟩ x y).toNat) 31 = (tkC ⟨A, U, sh1, t1⟩ ⟨B, V, sh2, t2⟩ x y).toNat from by simp only [nsub, nadd]; omega]
    exact at1_cI (by omega)
  have eB : ∀ t : Nat → Int, bitB (at1 (rowsOf 1 31 (cI .u32 t 31 0)) (nsub (nadd 31 (IntKind.u8.wrap (opOf 70 (countF (bitU x) (fun i => opOf 70 (opOf 62 (A i) (opOf 61 (bitU y i) (B i))) (U i)) 15) (IntKind.i64.wrap sh1))).toNat) 31))
      (IntKind.u8.wrap (opOf 70 (countF (bitU y) (fun i => opOf 70 (opOf 62 (opOf 61 (bitU x i) (A i)) (opOf 70 (B i) (opOf 61 (bitU y i) (B i)))) (V i)) 15) (IntKind.i64.wrap sh2))) = bitB (t (tkC ⟨A, U, sh1, t1⟩ ⟨B, V, sh2, t2⟩ x y).toNat) (tkS ⟨A, U, sh1, t1⟩ ⟨B, V, sh2, t2⟩ x y) := fun t => by rw [eT, eS]
  refine SCode.of_E tabOk e9 mixed (by kernel_rfl) ?_
  cbv
  refine .mk _ _ h2 ?_ trivial
  cbv
  repeat' first | apply And.intro | exact trivial | exact SameI.mk (by with_reducible rfl) | exact SameN.mk (by with_reducible rfl) | exact SameL.mk (by with_reducible rfl) | exact SameB.mk (by with_reducible rfl) | exact LeN.mk (by with_reducible exact Nat.le_refl _) | apply SameI.mk | apply SameN.mk | apply SameL.mk | apply SameB.mk | apply LeN.mk
  rotate_right 5
  · exact eC
  · exact eS
  · exact eB t1
  · exact eB t2
  · exact (congrArg bnot ((congrArg (fun z => beqv z _) (eB t1)).trans (congrArg (beqv _) (eB t2))) :)
  all_goals rfl
end Go.Proofs.YtlgmbpnlakjefaaDoor
end
