/- Contracts: is one among the entries of a slice? -/
import Derived.Test.YtlgmbpnlakjefaaBl4
namespace Go.Proofs.Ytlgmbpnlakjefaa
open Go.Sy
set_option maxRecDepth 10000
set_option linter.unusedSimpArgs false
set_option linter.unusedVariables false
def cGe (k : IntKind) (m : Int) : Con := fun args h K => match args with
  | [.int k' a] => match kEq k' k with
    | true => match h with
      | [] => K (.bool (.t fun _ => cop .ge a.v m)) []
      | _ => False
    | false => False
  | _ => False
theorem s107 : Sound Try.prog 107 (cGe .u8 31) := by
  refine k107.kept tabOk envOk_nil mixed o107 fun args h K hc => ?_
  unfold cGe at hc
  split at hc
  · rename_i k a
    split at hc
    · rename_i hk
      obtain rfl := kEq_eq hk
      split at hc
      · refine ⟨_, [], Ent.cons (ent_int _ _) Ent.nil, trivial, ?_⟩
        cbv
        exact .mk _ _ hc (.mk rfl) trivial
      · exact hc.elim
    · exact hc.elim
  · exact hc.elim
theorem s110 : Sound Try.prog 110 (cGe .u32 2147483648) := by
  refine k110.kept tabOk envOk_nil mixed o110 fun args h K hc => ?_
  unfold cGe at hc
  split at hc
  · rename_i k a
    split at hc
    · rename_i hk
      obtain rfl := kEq_eq hk
      split at hc
      · refine ⟨_, [], Ent.cons (ent_int _ _) Ent.nil, trivial, ?_⟩
        cbv
        exact .mk _ _ hc (.mk rfl) trivial
      · exact hc.elim
    · exact hc.elim
  · exact hc.elim
/-- the first place with a property, or -1 -/
def idx (q : Nat → Bool) (n : Nat) : Int := match (List.range n).find? q with | some j => ofN j | none => -1
theorem idx_found {q : Nat → Bool} {n i : Nat} (hi : i < n) (hq : q i = true) (h : ∀ j, j < i → q j = false) : idx q n = ofN i := by
  have : (List.range n).find? q = some i := by
    rw [List.find?_range_eq_some]
    exact ⟨hq, List.mem_range.2 hi, fun j hj => by simp [h j hj]⟩
  simp only [idx, this]
theorem idx_none {q : Nat → Bool} {n : Nat} (h : ∀ j, j < n → q j = false) : idx q n = -1 := by
  have : (List.range n).find? q = none := by
    rw [List.find?_eq_none]
    intro j hj
    simp [h j (List.mem_range.1 hj)]
  simp only [idx, this]
/-- is an entry at least m? -/
def geAt (m : Int) (l : List (List D)) (i : Nat) (j : Nat) : Bool := cop .ge (at1 l (nadd i j)) m
def cIndex (k : IntKind) (g : Nat) (m : Int) : Con := fun args h K => match args with
  | [.sl 0 i (.l 0) 1 n c x, .func (.func g') [] []] => match Nat.beq g' g with
    | true => match h with
      | [some o] => match o.c with
        | .rows [.int k'] l => match kEq k' k with
          | true => Chk (fun _ => i.v + n.v ≤ (l ()).length ∧ n.v ≤ 1000000) fun _ => K (.int .i64 (.t fun _ => idx (geAt m (l ()) i.v) n.v)) [some o]
          | false => False
        | _ => False
      | _ => False
    | false => False
  | _ => False
theorem index8_keeps {l : List (List D)} {i n : Nat} {mt : Bool} (h1 : i + n ≤ l.length ∧ n ≤ 1000000) {K : AV → Heap → Prop} (h2 : K (.int .i64 (.t fun _ => idx (geAt 31 l i) n)) [some ⟨mt, .rows [.int .u8] fun _ => l⟩]) :
    eFunc tab (env [(107, cGe .u8 31)]) (Try.f129.body.getD .skip) Try.f129.ntmps Try.f129.results.toList [.sl 0 (.t fun _ => i) (.l 0) 1 (.t fun _ => n) (.t fun _ => n) false, .func (.func 107) [] []] [some ⟨mt, .rows [.int .u8] fun _ => l⟩] (Ret K) := by
  cbv
  refine loop_inv [0, 1, 7, 8] (fun (j : Nat) => j ≤ n ∧ ∀ k, k < j → geAt 31 l i k = false) (fun j => ⟨[.sl 0 (.t fun _ => i) (.l 0) 1 (.t fun _ => n) (.t fun _ => n) false, .func (.func 107) [] [], .undef, .undef, .undef, .undef, .undef, .int .i64 (.t fun _ => ofN n), .int .i64 (.t fun _ => ofN j), .undef, .undef, .undef, .undef, .undef, .undef, .undef, .undef, .undef, .undef], [some ⟨mt, .rows [.int .u8] fun _ => l⟩]⟩) (fun j => n - j) 0 ⟨Nat.zero_le _, fun k hk => by omega⟩ ?_ ?_
  · cbv
    repeat' first | apply And.intro | exact trivial | exact SameI.mk (by with_reducible rfl) | exact SameN.mk (by with_reducible rfl) | exact SameL.mk (by with_reducible rfl) | exact SameB.mk (by with_reducible rfl) | exact LeN.mk (by with_reducible exact Nat.le_refl _) | apply SameI.mk | apply SameN.mk | apply SameL.mk | apply SameB.mk | apply LeN.mk
    all_goals first | rfl | (cases mt <;> exact trivial)
  · intro j R ⟨hj, hno⟩ hR
    have j0 := ofN_nonneg j
    cbv
    refine Br.mk (fun hc => ?_) (fun hc => ?_)
    · have hj2 : j < n := ofN_lt.1 (lt_t.1 hc)
      cbv
      refine Chk.mk ⟨j0, by show ofN j < (n : Int); simp only [ofN]; omega⟩ ?_
      cbv
      refine Chk.mk ?_ ?_
      · show 0 ≤ ofN (nadd i (ofN j).toNat) ∧ ofN (nadd i (ofN j).toNat) < ((l.length : Nat) : Int)
        rw [toNat_ofN]; simp only [nadd, ofN]; omega
      cbv
      refine Br.mk (fun hg => ?_) (fun hg => ?_)
      · have hg : geAt 31 l i j = true := by
          have : cop .ge (at1 l (nadd i (ofN j).toNat)) 31 = true := hg
          rw [toNat_ofN] at this; exact this
        cbv
        refine .mk ?_
        cbv
        exact .mk _ _ h2 ⟨trivial, .mk (idx_found hj2 hg hno).symm⟩ (whs_rows _ _ _ _ rfl)
      · have hg : geAt 31 l i j = false := by
          have : cop .ge (at1 l (nadd i (ofN j).toNat)) 31 = false := hg
          rw [toNat_ofN] at this; exact this
        cbv
        refine Chk.mk (inR64 (by rw [aop_add]; simp only [ofN]; omega)) ?_
        cbv
        refine .mk (hR (j + 1) _ ⟨hj2, fun k hk => by rcases Nat.lt_or_ge k j with h | h; exact hno k h; rw [show k = j by omega]; exact hg⟩ (by omega) ?_)
        cbv
        repeat' first | apply And.intro | exact trivial | exact SameI.mk (by with_reducible rfl) | exact SameN.mk (by with_reducible rfl) | exact SameL.mk (by with_reducible rfl) | exact SameB.mk (by with_reducible rfl) | exact LeN.mk (by with_reducible exact Nat.le_refl _) | apply SameI.mk | apply SameN.mk | apply SameL.mk | apply SameB.mk | apply LeN.mk
        all_goals first | exact (ofN_succ j).symm | (cases mt <;> exact trivial)
    · have hj2 : j = n := by
        have := lt_f.1 hc
        rw [ofN_lt] at this
        omega
      subst hj2
      cbv
      refine .mk ?_
      cbv
      exact .mk _ _ h2 ⟨trivial, .mk (idx_none hno).symm⟩ (whs_rows _ _ _ _ rfl)
theorem index32_keeps {l : List (List D)} {i n : Nat} {mt : Bool} (h1 : i + n ≤ l.length ∧ n ≤ 1000000) {K : AV → Heap → Prop} (h2 : K (.int .i64 (.t fun _ => idx (geAt 2147483648 l i) n)) [some ⟨mt, .rows [.int .u32] fun _ => l⟩]) :
    eFunc tab (env [(110, cGe .u32 2147483648)]) (Try.f130.body.getD .skip) Try.f130.ntmps Try.f130.results.toList [.sl 0 (.t fun _ => i) (.l 0) 1 (.t fun _ => n) (.t fun _ => n) false, .func (.func 110) [] []] [some ⟨mt, .rows [.int .u32] fun _ => l⟩] (Ret K) := by
  cbv
  refine loop_inv [0, 1, 7, 8] (fun (j : Nat) => j ≤ n ∧ ∀ k, k < j → geAt 2147483648 l i k = false) (fun j => ⟨[.sl 0 (.t fun _ => i) (.l 0) 1 (.t fun _ => n) (.t fun _ => n) false, .func (.func 110) [] [], .undef, .undef, .undef, .undef, .undef, .int .i64 (.t fun _ => ofN n), .int .i64 (.t fun _ => ofN j), .undef, .undef, .undef, .undef, .undef, .undef, .undef, .undef, .undef, .undef], [some ⟨mt, .rows [.int .u32] fun _ => l⟩]⟩) (fun j => n - j) 0 ⟨Nat.zero_le _, fun k hk => by omega⟩ ?_ ?_
  · cbv
    repeat' first | apply And.intro | exact trivial | exact SameI.mk (by with_reducible rfl) | exact SameN.mk (by with_reducible rfl) | exact SameL.mk (by with_reducible rfl) | exact SameB.mk (by with_reducible rfl) | exact LeN.mk (by with_reducible exact Nat.le_refl _) | apply SameI.mk | apply SameN.mk | apply SameL.mk | apply SameB.mk | apply LeN.mk
    all_goals first | rfl | (cases mt <;> exact trivial)
  · intro j R ⟨hj, hno⟩ hR
    have j0 := ofN_nonneg j
    cbv
    refine Br.mk (fun hc => ?_) (fun hc => ?_)
    · have hj2 : j < n := ofN_lt.1 (lt_t.1 hc)
      cbv
      refine Chk.mk ⟨j0, by show ofN j < (n : Int); simp only [ofN]; omega⟩ ?_
      cbv
      refine Chk.mk ?_ ?_
      · show 0 ≤ ofN (nadd i (ofN j).toNat) ∧ ofN (nadd i (ofN j).toNat) < ((l.length : Nat) : Int)
        rw [toNat_ofN]; simp only [nadd, ofN]; omega
      cbv
      refine Br.mk (fun hg => ?_) (fun hg => ?_)
      · have hg : geAt 2147483648 l i j = true := by
          have : cop .ge (at1 l (nadd i (ofN j).toNat)) 2147483648 = true := hg
          rw [toNat_ofN] at this; exact this
        cbv
        refine .mk ?_
        cbv
        exact .mk _ _ h2 ⟨trivial, .mk (idx_found hj2 hg hno).symm⟩ (whs_rows _ _ _ _ rfl)
      · have hg : geAt 2147483648 l i j = false := by
          have : cop .ge (at1 l (nadd i (ofN j).toNat)) 2147483648 = false := hg
          rw [toNat_ofN] at this; exact this
        cbv
        refine Chk.mk (inR64 (by rw [aop_add]; simp only [ofN]; omega)) ?_
        cbv
        refine .mk (hR (j + 1) _ ⟨hj2, fun k hk => by rcases Nat.lt_or_ge k j with h | h; exact hno k h; rw [show k = j by omega]; exact hg⟩ (by omega) ?_)
        cbv
        repeat' first | apply And.intro | exact trivial | exact SameI.mk (by with_reducible rfl) | exact SameN.mk (by with_reducible rfl) | exact SameL.mk (by with_reducible rfl) | exact SameB.mk (by with_reducible rfl) | exact LeN.mk (by with_reducible exact Nat.le_refl _) | apply SameI.mk | apply SameN.mk | apply SameL.mk | apply SameB.mk | apply LeN.mk
        all_goals first | exact (ofN_succ j).symm | (cases mt <;> exact trivial)
    · have hj2 : j = n := by
        have := lt_f.1 hc
        rw [ofN_lt] at this
        omega
      subst hj2
      cbv
      refine .mk ?_
      cbv
      exact .mk _ _ h2 ⟨trivial, .mk (idx_none hno).symm⟩ (whs_rows _ _ _ _ rfl)
theorem s129 : Sound Try.prog 129 (cIndex .u8 107 31) := by
  refine k129.kept tabOk (envOk_cons envOk_nil s107 k107.callable) mixed o129 fun args h K hc => ?_
  unfold cIndex at hc
  split at hc
  · split at hc
    · rename_i hg
      obtain rfl := Nat.eq_of_beq_eq_true hg
      split at hc
      · rename_i o
        obtain ⟨mt, co⟩ := o
        simp only at hc
        split at hc
        · split at hc
          · rename_i hk
            obtain rfl := kEq_eq hk
            cases hc with
            | mk h1 h2 => exact ⟨_, _, Ent.cons (ent_sl _ _ _ _ _ _ _) (Ent.cons (ent_refl _) Ent.nil), whs_rows _ _ _ (fun _ => _) rfl, index8_keeps h1 h2⟩
          · exact hc.elim
        · exact hc.elim
      · exact hc.elim
    · exact hc.elim
  · exact hc.elim
theorem s130 : Sound Try.prog 130 (cIndex .u32 110 2147483648) := by
  refine k130.kept tabOk (envOk_cons envOk_nil s110 k110.callable) mixed o130 fun args h K hc => ?_
  unfold cIndex at hc
  split at hc
  · split at hc
    · rename_i hg
      obtain rfl := Nat.eq_of_beq_eq_true hg
      split at hc
      · rename_i o
        obtain ⟨mt, co⟩ := o
        simp only at hc
        split at hc
        · split at hc
          · rename_i hk
            obtain rfl := kEq_eq hk
            cases hc with
            | mk h1 h2 => exact ⟨_, _, Ent.cons (ent_sl _ _ _ _ _ _ _) (Ent.cons (ent_refl _) Ent.nil), whs_rows _ _ _ (fun _ => _) rfl, index32_keeps h1 h2⟩
          · exact hc.elim
        · exact hc.elim
      · exact hc.elim
    · exact hc.elim
  · exact hc.elim
def cContains (k : IntKind) (g : Nat) (m : Int) : Con := fun args h K => match args with
  | [.sl 0 i (.l 0) 1 n c x, .func (.func g') [] []] => match Nat.beq g' g with
    | true => match h with
      | [some o] => match o.c with
        | .rows [.int k'] l => match kEq k' k with
          | true => Chk (fun _ => i.v + n.v ≤ (l ()).length ∧ n.v ≤ 1000000) fun _ => K (.bool (.t fun _ => cop .ge (idx (geAt m (l ()) i.v) n.v) 0)) [some o]
          | false => False
        | _ => False
      | _ => False
    | false => False
  | _ => False
theorem contains8_keeps {l : List (List D)} {i n : Nat} {mt : Bool} (h1 : i + n ≤ l.length ∧ n ≤ 1000000) {K : AV → Heap → Prop} (h2 : K (.bool (.t fun _ => cop .ge (idx (geAt 31 l i) n) 0)) [some ⟨mt, .rows [.int .u8] fun _ => l⟩]) :
    eFunc tab (env [(129, cIndex .u8 107 31)]) (Try.f108.body.getD .skip) Try.f108.ntmps Try.f108.results.toList [.sl 0 (.t fun _ => i) (.l 0) 1 (.t fun _ => n) (.t fun _ => n) false, .func (.func 107) [] []] [some ⟨mt, .rows [.int .u8] fun _ => l⟩] (Ret K) := by
  cases mt
  · cbv
    refine Chk.mk (h1) ?_
    cbv
    exact .mk _ _ h2 (.mk rfl) (whs_rows _ _ _ _ rfl)
  · cbv
    refine Chk.mk (h1) ?_
    cbv
    exact .mk _ _ h2 (.mk rfl) (whs_rows _ _ _ _ rfl)
theorem contains32_keeps {l : List (List D)} {i n : Nat} {mt : Bool} (h1 : i + n ≤ l.length ∧ n ≤ 1000000) {K : AV → Heap → Prop} (h2 : K (.bool (.t fun _ => cop .ge (idx (geAt 2147483648 l i) n) 0)) [some ⟨mt, .rows [.int .u32] fun _ => l⟩]) :
    eFunc tab (env [(130, cIndex .u32 110 2147483648)]) (Try.f109.body.getD .skip) Try.f109.ntmps Try.f109.results.toList [.sl 0 (.t fun _ => i) (.l 0) 1 (.t fun _ => n) (.t fun _ => n) false, .func (.func 110) [] []] [some ⟨mt, .rows [.int .u32] fun _ => l⟩] (Ret K) := by
  cases mt
  · cbv
    refine Chk.mk (h1) ?_
    cbv
    exact .mk _ _ h2 (.mk rfl) (whs_rows _ _ _ _ rfl)
  · cbv
    refine Chk.mk (h1) ?_
    cbv
    exact .mk _ _ h2 (.mk rfl) (whs_rows _ _ _ _ rfl)
theorem s108 : Sound Try.prog 108 (cContains .u8 107 31) := by
  refine k108.kept tabOk (envOk_cons envOk_nil s129 k129.callable) mixed o108 fun args h K hc => ?_
  unfold cContains at hc
  split at hc
  · split at hc
    · rename_i hg
      obtain rfl := Nat.eq_of_beq_eq_true hg
      split at hc
      · rename_i o
        obtain ⟨mt, co⟩ := o
        simp only at hc
        split at hc
        · split at hc
          · rename_i hk
            obtain rfl := kEq_eq hk
            cases hc with
            | mk h1 h2 => exact ⟨_, _, Ent.cons (ent_sl _ _ _ _ _ _ _) (Ent.cons (ent_refl _) Ent.nil), whs_rows _ _ _ (fun _ => _) rfl, contains8_keeps h1 h2⟩
          · exact hc.elim
        · exact hc.elim
      · exact hc.elim
    · exact hc.elim
  · exact hc.elim
theorem s109 : Sound Try.prog 109 (cContains .u32 110 2147483648) := by
  refine k109.kept tabOk (envOk_cons envOk_nil s130 k130.callable) mixed o109 fun args h K hc => ?_
  unfold cContains at hc
  split at hc
  · split at hc
    · rename_i hg
      obtain rfl := Nat.eq_of_beq_eq_true hg
      split at hc
      · rename_i o
        obtain ⟨mt, co⟩ := o
        simp only at hc
        split at hc
        · split at hc
          · rename_i hk
            obtain rfl := kEq_eq hk
            cases hc with
            | mk h1 h2 => exact ⟨_, _, Ent.cons (ent_sl _ _ _ _ _ _ _) (Ent.cons (ent_refl _) Ent.nil), whs_rows _ _ _ (fun _ => _) rfl, contains32_keeps h1 h2⟩
          · exact hc.elim
        · exact hc.elim
      · exact hc.elim
    · exact hc.elim
  · exact hc.elim
end Go.Proofs.Ytlgmbpnlakjefaa
