/- Contracts: keys: bits and words, orders picked and undone. -/
import Derived.Test.YtlgmbpnlakjefaaBl8
namespace Go.Proofs.Ytlgmbpnlakjefaa
open Go.Sy
set_option maxRecDepth 100000
set_option maxHeartbeats 1000000
set_option linter.unusedSimpArgs false
set_option linter.unusedVariables false
theorem idx1 {i n : Nat} (h : i < n) : 0 ≤ ofN i ∧ ofN i < ((NX.t fun _ => n).v : Int) := by simp only [ofN, NX.v]; omega
theorem idx2 {i : Nat} {l : List Int} (h : i < l.length) : 0 ≤ ofN (ofN i).toNat ∧ ofN (ofN i).toNat < ((NX.t fun _ => (ints l).length).v : Int) := by rw [toNat_ofN, ints_length]; exact idx1 h
theorem idx3 {a : Int} {n : Nat} (h0 : 0 ≤ a) (h : a < ofN n) : 0 ≤ a ∧ a < ((NX.t fun _ => n).v : Int) := ⟨h0, h⟩
theorem idx4 {a : Int} {l : List Int} (h0 : 0 ≤ a) (h : a < ofN l.length) : 0 ≤ ofN a.toNat ∧ ofN a.toNat < ((NX.t fun _ => (ints l).length).v : Int) := by rw [ints_length]; simp only [ofN, NX.v] at *; omega
theorem ld {l : List Int} {i : Nat} : at1 (ints l) (ofN i).toNat = l.getD i 0 := by rw [toNat_ofN, at1_ints]
theorem inc64 {i n : Nat} (h : i < n) (hn : n ≤ 1000000) : inR .i64 (aop .add (ofN i) 1) = true := inR64 (by rw [aop_add]; simp only [ofN]; omega)
theorem lt_len {i n : Nat} (hc : cop .lt (ofN i) (ofN n) = true) : i < n := ofN_lt.1 (lt_t.1 hc)
theorem ge_len {i n : Nat} (hc : cop .lt (ofN i) (ofN n) = false) (hi : i ≤ n) : i = n := by have := lt_f.1 hc; rw [ofN_lt] at this; omega
theorem mk1 {n b : Nat} (hn : n ≤ 1000000) (hb : b ≤ 8) : 0 ≤ ofN n ∧ ofN n ≤ ofN n ∧ ofN n * (b : Int) ≤ (maxBytes : Int) := by
  have h : n * b ≤ 1000000 * 8 := Nat.mul_le_mul hn hb
  simp only [ofN, maxBytes]
  omega
theorem put_ints {l m : List Int} {i : Nat} {x : Int} (hi : i < l.length) (h : l.set i x = m) : (ints l).set (ofN i).toNat (((ints l).getD (ofN i).toNat []).set 0 (.i x)) = ints m := by
  rw [toNat_ofN, ints_set _ _ _ hi, h]
/-! ### word -/
def wordTo (l : List Int) : Nat → Int
  | 0 => 0
  | i + 1 => aop (.bits .or .u16) (wordTo l i) (aop (.shl .u16) (l.getD i 0) (ofN i))
def cWord : Con := con (fun l : List Int => [.sl 0 (.l 0) (.l 0) 1 (.t fun _ => l.length) (.t fun _ => l.length) false]) (fun l => [some ⟨true, .rows [.int .u16] fun _ => ints l⟩]) (fun l => l.length ≤ 1000) (fun l K => K (.int .u16 (.t fun _ => wordTo l l.length)) [some ⟨true, .rows [.int .u16] fun _ => ints l⟩])
theorem s65 : Sound Try.prog 65 cWord := by
  refine k65.con tabOk envOk_nil mixed o65 fun l K hl h2 => ?_
  cbv
  refine loop_inv [3, 6, 7, 8] (fun (i : Nat) => i ≤ l.length) (fun i => ⟨[.undef, .undef, .undef, .int .u16 (.t fun _ => wordTo l i), .undef, .undef, .sl 0 (.l 0) (.l 0) 1 (.t fun _ => l.length) (.t fun _ => l.length) false, .int .i64 (.t fun _ => ofN l.length), .int .i64 (.t fun _ => ofN i), .undef, .undef, .undef, .undef, .undef, .undef, .undef, .undef, .undef, .undef, .undef], [some ⟨true, .rows [.int .u16] fun _ => ints l⟩]⟩) (fun i => l.length - i) 0 (Nat.zero_le _) ?_ ?_
  · cbv
    repeat' first | apply And.intro | exact trivial | exact SameI.mk (by with_reducible rfl) | exact SameN.mk (by with_reducible rfl) | exact SameL.mk (by with_reducible rfl) | exact SameB.mk (by with_reducible rfl) | exact LeN.mk (by with_reducible exact Nat.le_refl _) | apply SameI.mk | apply SameN.mk | apply SameL.mk | apply SameB.mk | apply LeN.mk
    all_goals rfl
  · intro i R hi hR
    have i0 := ofN_nonneg i
    cbv
    refine Br.mk (fun hc => ?_) (fun hc => ?_)
    · have hi2 := lt_len hc
      cbv
      refine Chk.mk (idx1 hi2) ?_
      cbv
      refine Chk.mk (idx2 hi2) ?_
      cbv
      refine Chk.mk (i0) ?_
      cbv
      refine Chk.mk (inc64 hi2 (by omega)) ?_
      cbv
      refine .mk (hR (i + 1) _ hi2 (by omega) ?_)
      cbv
      repeat' first | apply And.intro | exact trivial | exact SameI.mk (by with_reducible rfl) | exact SameN.mk (by with_reducible rfl) | exact SameL.mk (by with_reducible rfl) | exact SameB.mk (by with_reducible rfl) | exact LeN.mk (by with_reducible exact Nat.le_refl _) | apply SameI.mk | apply SameN.mk | apply SameL.mk | apply SameB.mk | apply LeN.mk
      · show aop (.bits .or .u16) (wordTo l i) (aop (.shl .u16) (at1 (ints l) (ofN i).toNat) (ofN i)) = _
        rw [ld]; rfl
      · exact (ofN_succ i).symm
      all_goals rfl
    · obtain rfl := ge_len hc hi
      cbv
      refine .mk ?_
      cbv
      exact .mk _ _ h2 ⟨trivial, .mk rfl⟩ (whs_rows _ _ _ _ rfl)
/-! ### bits -/
def bit16 (w : Int) (i : Nat) : Int := aop (.bits .and .u16) (aop (.shr .u16) w (ofN i)) 1
def bitsTo (n : Nat) (w : Int) (i : Nat) : List Int := (List.range n).map fun j => if j < i then bit16 w j else 0
theorem bitsTo_length (n : Nat) (w : Int) (i : Nat) : (bitsTo n w i).length = n := by simp [bitsTo]
theorem bitsTo_zero (n : Nat) (w : Int) : bitsTo n w 0 = List.replicate n 0 := by
  simp [bitsTo, List.map_const']
theorem bitsTo_set {n i : Nat} (w : Int) (hi : i < n) : (bitsTo n w i).set i (bit16 w i) = bitsTo n w (i + 1) := by
  apply List.ext_getElem?
  intro j
  rw [List.getElem?_set]
  simp only [bitsTo_length]
  by_cases hj : j < n
  · by_cases e : i = j
    · subst e; simp [bitsTo, hi]
    · rw [if_neg e]
      simp only [bitsTo, List.getElem?_map, List.getElem?_range hj, Option.map_some]
      by_cases e2 : j < i
      · rw [if_pos e2, if_pos (by omega)]
      · rw [if_neg e2, if_neg (by omega)]
  · by_cases e : i = j
    · omega
    · rw [if_neg e]
      simp [bitsTo, hj]
def bitsL (n : Nat) (w : Int) : List Int := bitsTo n w n
def cBits : Con := con (fun x : Nat × Int => [.int .u16 (.t fun _ => x.2), .int .i64 (.t fun _ => ofN x.1)]) (fun _ => []) (fun x => x.1 ≤ 1000) (fun x K => K (.sl 0 (.l 0) (.l 0) 1 (.t fun _ => x.1) (.t fun _ => x.1) false) [some ⟨true, .rows [.int .u16] fun _ => ints (bitsL x.1 x.2)⟩])
theorem s67 : Sound Try.prog 67 cBits := by
  refine k67.con tabOk envOk_nil mixed o67 fun x K hl h2 => ?_
  obtain ⟨n, w⟩ := x
  dsimp only at hl h2 ⊢
  cbv
  refine Chk.mk (mk1 (by omega) (by decide)) ?_
  cbv
  refine loop_inv [0, 5, 10, 11] (fun (i : Nat) => i ≤ n) (fun i => ⟨[.int .u16 (.t fun _ => w), .undef, .undef, .undef, .undef, .sl 0 (.l 0) (.l 0) 1 (.t fun _ => n) (.t fun _ => n) false, .undef, .undef, .undef, .undef, .int .i64 (.t fun _ => ofN n), .int .i64 (.t fun _ => ofN i), .undef, .undef, .undef, .undef, .undef, .undef, .undef, .undef, .undef, .undef, .undef], [some ⟨true, .rows [.int .u16] fun _ => ints (bitsTo n w i)⟩]⟩) (fun i => n - i) 0 (Nat.zero_le _) ?_ ?_
  · cbv
    repeat' first | apply And.intro | exact trivial | exact SameI.mk (by with_reducible rfl) | exact SameN.mk (by with_reducible rfl) | exact SameL.mk (by with_reducible rfl) | exact SameB.mk (by with_reducible rfl) | exact LeN.mk (by with_reducible exact Nat.le_refl _) | apply SameI.mk | apply SameN.mk | apply SameL.mk | apply SameB.mk | apply LeN.mk
    all_goals first | rfl | exact (ofN_succ _).symm | (simp only [toNat_ofN, NX.v, IX.v, Nat.le_refl]; done) | ((try simp only [toNat_ofN, NX.v, IX.v, nadd, nsub]); omega) | skip
    show List.replicate (ofN n).toNat [D.i 0] = _
    rw [bitsTo_zero, toNat_ofN, ints_zero]
  · intro i R hi hR
    have i0 := ofN_nonneg i
    cbv
    refine Br.mk (fun hc => ?_) (fun hc => ?_)
    · have hi2 := lt_len hc
      cbv
      refine Chk.mk (i0) ?_
      cbv
      refine Chk.mk (idx1 hi2) ?_
      cbv
      refine Chk.mk (idx2 (by rw [bitsTo_length]; exact hi2)) ?_
      cbv
      refine Chk.mk (inc64 hi2 (by omega)) ?_
      cbv
      refine .mk (hR (i + 1) _ hi2 (by omega) ?_)
      cbv
      repeat' first | apply And.intro | exact trivial | exact SameI.mk (by with_reducible rfl) | exact SameN.mk (by with_reducible rfl) | exact SameL.mk (by with_reducible rfl) | exact SameB.mk (by with_reducible rfl) | exact LeN.mk (by with_reducible exact Nat.le_refl _) | apply SameI.mk | apply SameN.mk | apply SameL.mk | apply SameB.mk | apply LeN.mk
      all_goals first | rfl | exact (ofN_succ _).symm | (simp only [toNat_ofN, NX.v, IX.v, Nat.le_refl]; done) | ((try simp only [toNat_ofN, NX.v, IX.v, nadd, nsub]); omega) | skip
      exact put_ints (by rw [bitsTo_length]; exact hi2) (bitsTo_set w hi2)
    · obtain rfl := ge_len hc hi
      cbv
      refine .mk ?_
      cbv
      refine .mk _ _ h2 ?_ ?_
      all_goals cbv
      all_goals repeat' first | apply And.intro | exact trivial | exact SameI.mk (by with_reducible rfl) | exact SameN.mk (by with_reducible rfl) | exact SameL.mk (by with_reducible rfl) | exact SameB.mk (by with_reducible rfl) | exact LeN.mk (by with_reducible exact Nat.le_refl _) | apply SameI.mk | apply SameN.mk | apply SameL.mk | apply SameB.mk | apply LeN.mk
      all_goals first | rfl | exact (ofN_succ _).symm | (simp only [toNat_ofN, NX.v, IX.v, Nat.le_refl]; done) | ((try simp only [toNat_ofN, NX.v, IX.v, nadd, nsub]); omega) | skip
/-! ### pick -/
def fillTo (n : Nat) (f : Nat → Int) (i : Nat) : List Int := (List.range n).map fun j => if j < i then f j else 0
theorem fillTo_length (n : Nat) (f : Nat → Int) (i : Nat) : (fillTo n f i).length = n := by simp [fillTo]
theorem fillTo_zero (n : Nat) (f : Nat → Int) : fillTo n f 0 = List.replicate n 0 := by simp [fillTo, List.map_const']
theorem fillTo_set {n i : Nat} (f : Nat → Int) (hi : i < n) : (fillTo n f i).set i (f i) = fillTo n f (i + 1) := by
  apply List.ext_getElem?
  intro j
  rw [List.getElem?_set]
  simp only [fillTo_length]
  by_cases hj : j < n
  · by_cases e : i = j
    · subst e; simp [fillTo, hi]
    · rw [if_neg e]
      simp only [fillTo, List.getElem?_map, List.getElem?_range hj, Option.map_some]
      by_cases e2 : j < i
      · rw [if_pos e2, if_pos (by omega)]
      · rw [if_neg e2, if_neg (by omega)]
  · by_cases e : i = j
    · omega
    · rw [if_neg e]
      simp [fillTo, hj]
def pickAt (l o : List Int) (j : Nat) : Int := l.getD (o.getD j 0).toNat 0
def pickL (l o : List Int) : List Int := fillTo o.length (pickAt l o) o.length
def cPick (k : IntKind) : Con := con (fun x : List Int × List Int => [.sl 0 (.l 0) (.l 0) 1 (.t fun _ => x.1.length) (.t fun _ => x.1.length) false, .sl 1 (.l 0) (.l 0) 1 (.t fun _ => x.2.length) (.t fun _ => x.2.length) false]) (fun x => [some ⟨true, .rows [.int k] fun _ => ints x.1⟩, some ⟨true, .rows [.int .i64] fun _ => ints x.2⟩])
  (fun x => x.2.length ≤ 1000 ∧ ∀ i, i < x.2.length → 0 ≤ x.2.getD i 0 ∧ x.2.getD i 0 < ofN x.1.length) (fun x K => K (.sl 2 (.l 0) (.l 0) 1 (.t fun _ => x.2.length) (.t fun _ => x.2.length) false) [some ⟨true, .rows [.int k] fun _ => ints x.1⟩, some ⟨true, .rows [.int .i64] fun _ => ints x.2⟩, some ⟨true, .rows [.int k] fun _ => ints (pickL x.1 x.2)⟩])
theorem s66 : Sound Try.prog 66 (cPick .u16) := by
  refine k66.con tabOk envOk_nil mixed o66 fun x K hl h2 => ?_
  obtain ⟨l, o⟩ := x
  obtain ⟨hl, ho⟩ := hl
  dsimp only at hl ho h2 ⊢
  cbv
  refine Chk.mk (mk1 (by omega) (by decide)) ?_
  cbv
  refine loop_inv [0, 5, 11, 12, 13] (fun (i : Nat) => i ≤ o.length) (fun i => ⟨[.sl 0 (.l 0) (.l 0) 1 (.t fun _ => l.length) (.t fun _ => l.length) false, .undef, .undef, .undef, .undef, .sl 2 (.l 0) (.l 0) 1 (.t fun _ => o.length) (.t fun _ => o.length) false, .undef, .undef, .undef, .undef, .undef, .sl 1 (.l 0) (.l 0) 1 (.t fun _ => o.length) (.t fun _ => o.length) false, .int .i64 (.t fun _ => ofN o.length), .int .i64 (.t fun _ => ofN i), .undef, .undef, .undef, .undef, .undef, .undef, .undef, .undef, .undef, .undef, .undef, .undef, .undef], [some ⟨true, .rows [.int .u16] fun _ => ints l⟩, some ⟨true, .rows [.int .i64] fun _ => ints o⟩, some ⟨true, .rows [.int .u16] fun _ => ints (fillTo o.length (pickAt l o) i)⟩]⟩) (fun i => o.length - i) 0 (Nat.zero_le _) ?_ ?_
  · cbv
    repeat' first | apply And.intro | exact trivial | exact SameI.mk (by with_reducible rfl) | exact SameN.mk (by with_reducible rfl) | exact SameL.mk (by with_reducible rfl) | exact SameB.mk (by with_reducible rfl) | exact LeN.mk (by with_reducible exact Nat.le_refl _) | apply SameI.mk | apply SameN.mk | apply SameL.mk | apply SameB.mk | apply LeN.mk
    all_goals first | rfl | exact (ofN_succ _).symm | (simp only [toNat_ofN, NX.v, IX.v, Nat.le_refl]; done) | ((try simp only [toNat_ofN, NX.v, IX.v, nadd, nsub]); omega) | skip
    show List.replicate (ofN o.length).toNat [D.i 0] = _
    rw [fillTo_zero, toNat_ofN, ints_zero]
  · intro i R hi hR
    have i0 := ofN_nonneg i
    cbv
    refine Br.mk (fun hc => ?_) (fun hc => ?_)
    · have hi2 := lt_len hc
      have hv := ho i hi2
      have ea : at1 (ints o) (ofN i).toNat = o.getD i 0 := ld
      cbv
      refine Chk.mk (idx1 hi2) ?_
      cbv
      refine Chk.mk (idx2 hi2) ?_
      cbv
      refine Chk.mk ?_ ?_
      · show 0 ≤ at1 (ints o) (ofN i).toNat ∧ at1 (ints o) (ofN i).toNat < ofN l.length
        rw [ea]; exact hv
      cbv
      refine Chk.mk ?_ ?_
      · show 0 ≤ ofN (at1 (ints o) (ofN i).toNat).toNat ∧ ofN (at1 (ints o) (ofN i).toNat).toNat < ofN (ints l).length
        rw [ea]; exact idx4 hv.1 hv.2
      cbv
      refine Chk.mk (idx1 hi2) ?_
      cbv
      refine Chk.mk (idx2 (by rw [fillTo_length]; exact hi2)) ?_
      cbv
      refine Chk.mk (inc64 hi2 (by omega)) ?_
      cbv
      refine .mk (hR (i + 1) _ hi2 (by omega) ?_)
      cbv
      repeat' first | apply And.intro | exact trivial | exact SameI.mk (by with_reducible rfl) | exact SameN.mk (by with_reducible rfl) | exact SameL.mk (by with_reducible rfl) | exact SameB.mk (by with_reducible rfl) | exact LeN.mk (by with_reducible exact Nat.le_refl _) | apply SameI.mk | apply SameN.mk | apply SameL.mk | apply SameB.mk | apply LeN.mk
      all_goals first | rfl | exact (ofN_succ _).symm | (simp only [toNat_ofN, NX.v, IX.v, Nat.le_refl]; done) | ((try simp only [toNat_ofN, NX.v, IX.v, nadd, nsub]); omega) | skip
      refine put_ints (by rw [fillTo_length]; exact hi2) ?_
      have e2 : at1 (ints l) (at1 (ints o) (ofN i).toNat).toNat = pickAt l o i := by rw [ea, at1_ints]; rfl
      exact (congrArg ((fillTo o.length (pickAt l o) i).set i) e2).trans (fillTo_set _ hi2)
    · obtain rfl := ge_len hc hi
      cbv
      refine .mk ?_
      cbv
      refine .mk _ _ h2 ?_ ?_
      all_goals cbv
      all_goals repeat' first | apply And.intro | exact trivial | exact SameI.mk (by with_reducible rfl) | exact SameN.mk (by with_reducible rfl) | exact SameL.mk (by with_reducible rfl) | exact SameB.mk (by with_reducible rfl) | exact LeN.mk (by with_reducible exact Nat.le_refl _) | apply SameI.mk | apply SameN.mk | apply SameL.mk | apply SameB.mk | apply LeN.mk
      all_goals first | rfl | exact (ofN_succ _).symm | (simp only [toNat_ofN, NX.v, IX.v, Nat.le_refl]; done) | ((try simp only [toNat_ofN, NX.v, IX.v, nadd, nsub]); omega) | skip
theorem s70 : Sound Try.prog 70 (cPick .i64) := by
  refine k70.con tabOk envOk_nil mixed o70 fun x K hl h2 => ?_
  obtain ⟨l, o⟩ := x
  obtain ⟨hl, ho⟩ := hl
  dsimp only at hl ho h2 ⊢
  cbv
  refine Chk.mk (mk1 (by omega) (by decide)) ?_
  cbv
  refine loop_inv [0, 5, 11, 12, 13] (fun (i : Nat) => i ≤ o.length) (fun i => ⟨[.sl 0 (.l 0) (.l 0) 1 (.t fun _ => l.length) (.t fun _ => l.length) false, .undef, .undef, .undef, .undef, .sl 2 (.l 0) (.l 0) 1 (.t fun _ => o.length) (.t fun _ => o.length) false, .undef, .undef, .undef, .undef, .undef, .sl 1 (.l 0) (.l 0) 1 (.t fun _ => o.length) (.t fun _ => o.length) false, .int .i64 (.t fun _ => ofN o.length), .int .i64 (.t fun _ => ofN i), .undef, .undef, .undef, .undef, .undef, .undef, .undef, .undef, .undef, .undef, .undef, .undef, .undef], [some ⟨true, .rows [.int .i64] fun _ => ints l⟩, some ⟨true, .rows [.int .i64] fun _ => ints o⟩, some ⟨true, .rows [.int .i64] fun _ => ints (fillTo o.length (pickAt l o) i)⟩]⟩) (fun i => o.length - i) 0 (Nat.zero_le _) ?_ ?_
  · cbv
    repeat' first | apply And.intro | exact trivial | exact SameI.mk (by with_reducible rfl) | exact SameN.mk (by with_reducible rfl) | exact SameL.mk (by with_reducible rfl) | exact SameB.mk (by with_reducible rfl) | exact LeN.mk (by with_reducible exact Nat.le_refl _) | apply SameI.mk | apply SameN.mk | apply SameL.mk | apply SameB.mk | apply LeN.mk
    all_goals first | rfl | exact (ofN_succ _).symm | (simp only [toNat_ofN, NX.v, IX.v, Nat.le_refl]; done) | ((try simp only [toNat_ofN, NX.v, IX.v, nadd, nsub]); omega) | skip
    show List.replicate (ofN o.length).toNat [D.i 0] = _
    rw [fillTo_zero, toNat_ofN, ints_zero]
  · intro i R hi hR
    have i0 := ofN_nonneg i
    cbv
    refine Br.mk (fun hc => ?_) (fun hc => ?_)
    · have hi2 := lt_len hc
      have hv := ho i hi2
      have ea : at1 (ints o) (ofN i).toNat = o.getD i 0 := ld
      cbv
      refine Chk.mk (idx1 hi2) ?_
      cbv
      refine Chk.mk (idx2 hi2) ?_
      cbv
      refine Chk.mk ?_ ?_
      · show 0 ≤ at1 (ints o) (ofN i).toNat ∧ at1 (ints o) (ofN i).toNat < ofN l.length
        rw [ea]; exact hv
      cbv
      refine Chk.mk ?_ ?_
      · show 0 ≤ ofN (at1 (ints o) (ofN i).toNat).toNat ∧ ofN (at1 (ints o) (ofN i).toNat).toNat < ofN (ints l).length
        rw [ea]; exact idx4 hv.1 hv.2
      cbv
      refine Chk.mk (idx1 hi2) ?_
      cbv
      refine Chk.mk (idx2 (by rw [fillTo_length]; exact hi2)) ?_
      cbv
      refine Chk.mk (inc64 hi2 (by omega)) ?_
      cbv
      refine .mk (hR (i + 1) _ hi2 (by omega) ?_)
      cbv
      repeat' first | apply And.intro | exact trivial | exact SameI.mk (by with_reducible rfl) | exact SameN.mk (by with_reducible rfl) | exact SameL.mk (by with_reducible rfl) | exact SameB.mk (by with_reducible rfl) | exact LeN.mk (by with_reducible exact Nat.le_refl _) | apply SameI.mk | apply SameN.mk | apply SameL.mk | apply SameB.mk | apply LeN.mk
      all_goals first | rfl | exact (ofN_succ _).symm | (simp only [toNat_ofN, NX.v, IX.v, Nat.le_refl]; done) | ((try simp only [toNat_ofN, NX.v, IX.v, nadd, nsub]); omega) | skip
      refine put_ints (by rw [fillTo_length]; exact hi2) ?_
      have e2 : at1 (ints l) (at1 (ints o) (ofN i).toNat).toNat = pickAt l o i := by rw [ea, at1_ints]; rfl
      exact (congrArg ((fillTo o.length (pickAt l o) i).set i) e2).trans (fillTo_set _ hi2)
    · obtain rfl := ge_len hc hi
      cbv
      refine .mk ?_
      cbv
      refine .mk _ _ h2 ?_ ?_
      all_goals cbv
      all_goals repeat' first | apply And.intro | exact trivial | exact SameI.mk (by with_reducible rfl) | exact SameN.mk (by with_reducible rfl) | exact SameL.mk (by with_reducible rfl) | exact SameB.mk (by with_reducible rfl) | exact LeN.mk (by with_reducible exact Nat.le_refl _) | apply SameI.mk | apply SameN.mk | apply SameL.mk | apply SameB.mk | apply LeN.mk
      all_goals first | rfl | exact (ofN_succ _).symm | (simp only [toNat_ofN, NX.v, IX.v, Nat.le_refl]; done) | ((try simp only [toNat_ofN, NX.v, IX.v, nadd, nsub]); omega) | skip
end Go.Proofs.Ytlgmbpnlakjefaa
