/- Put together by a program of this work out of its texts Bl9, Bl10, Bl11. -/
import Derived.Test.YtlgmbpnlakjefaaDoorM11
section
/- Contracts: keys: bits and words, orders picked and undone. -/
namespace Go.Proofs.YtlgmbpnlakjefaaDoor
open Go.Sy
set_option maxRecDepth 100000
set_option maxHeartbeats 1000000
set_option linter.unusedSimpArgs false
set_option linter.unusedVariables false
theorem idx1 {i n : Nat} (h : i < n) : 0 ≤ ofN i ∧ ofN i < ((NX.t fun _ => n).v : Int) := by simp only [ofN, NX.v]; omega
theorem idx2 {i : Nat} {l : List Int} (h : i < l.length) : 0 ≤ ofN (ofN i).toNat ∧ ofN (ofN i).toNat < ((NX.t fun _ => (ints l).length).v : Int) := by rw [toNat_ofN, ints_length]; exact idx1 h
theorem idx3 {a : Int} {n : Nat} (h0 : 0 ≤ a) (h : a < ofN n) : 0 ≤ a ∧ a < ((NX.t fun _ => n).v : Int) := ⟨h0, h⟩
theorem idx4 {a : Int} {l : List Int} (h0 : 0 ≤ a) (h : a < ofN l.length) : 0 ≤ ofN a.toNat ∧ ofN a.toNat < ((NX.t fun _ => (ints l).length).v : Int) := by rw [ints_length]; simp only [ofN, NX.v] at *; omega
theorem ld {l : List Int} {i : Nat} : at1 (ints l) (ofN i).toNat = l.getD i 0 := by rw [toNat_ofN, at1_ints]
theorem inc64 {i n : Nat} (h : i < n) (hn : n ≤ 1000000) : inR .i64 (aop .add (ofN i) 1) = true := inR64 (by rw [aop_add]; simp only [ofN]; omega)
theorem lt_len {i n : Nat} (hc : cop .lt (ofN i) (ofN n) = true) : i < n := ofN_lt.1 (lt_t.1 hc)
theorem ge_len {i n : Nat} (hc : cop .lt (ofN i) (ofN n) = false) (hi : i ≤ n) : i = n := by have := lt_f.1 hc; rw [ofN_lt] at this; omega
theorem mk1 {n b : Nat} (hn : n ≤ 1000000) (hb : b ≤ 8) : 0 ≤ ofN n ∧ ofN n ≤ ofN n ∧ ofN n * (b : Int) ≤ (maxBytes : Int) := by
  have h : n * b ≤ 1000000 * 8 := Nat.mul_le_mul hn hb
  simp only [ofN, maxBytes]
  omega
theorem put_ints {l m : List Int} {i : Nat} {x : Int} (hi : i < l.length) (h : l.set i x = m) : (ints l).set (ofN i).toNat (((ints l).getD (ofN i).toNat []).set 0 (.i x)) = ints m := by
  rw [toNat_ofN, ints_set _ _ _ hi, h]
/-! ### word -/
def wordTo (l : List Int) : Nat → Int
  | 0 => 0
  | i + 1 => aop (.bits .or .u16) (wordTo l i) (aop (.shl .u16) (l.getD i 0) (ofN i))
def cWord : Con := con (fun l : List Int => [.sl 0 (.l 0) (.l 0) 1 (.t fun _ => l.length) (.t fun _ => l.length) false]) (fun l => [some ⟨true, .rows [.int .u16] fun _ => ints l⟩]) (fun l => l.length ≤ 1000) (fun l K => K (.int .u16 (.t fun _ => wordTo l l.length)) [some ⟨true, .rows [.int .u16] fun _ => ints l⟩])
theorem s47 : Sound Tryd.prog 47 cWord := by
  refine k47.con tabOk envOk_nil mixed o47 fun l K hl h2 => ?_
  cbv
  refine loop_inv [3, 6, 7, 8] (fun (i : Nat) => i ≤ l.length) (fun i => ⟨[.undef, .undef, .undef, .int .u16 (.t fun _ => wordTo l i), .undef, .undef, .sl 0 (.l 0) (.l 0) 1 (.t fun _ => l.length) (.t fun _ => l.length) false, .int .i64 (.t fun _ => ofN l.length), .int .i64 (.t fun _ => ofN i), .undef, .undef, .undef, .undef, .undef, .undef, .undef, .undef, .undef, .undef, .undef], [some ⟨true, .rows [.int .u16] fun _ => ints l⟩]⟩) (fun i => l.length - i) 0 (Nat.zero_le _) ?_ ?_
  · cbv
    repeat' first | apply And.intro | exact trivial | exact SameI.mk (by with_reducible rfl) | exact SameN.mk (by with_reducible rfl) | exact SameL.mk (by with_reducible rfl) | exact SameB.mk (by with_reducible rfl) | exact LeN.mk (by with_reducible exact Nat.le_refl _) | apply SameI.mk | apply SameN.mk | apply SameL.mk | apply SameB.mk | apply LeN.mk
    all_goals rfl
  · intro i R hi hR
    have i0 := ofN_nonneg i
    cbv
    refine Br.mk (fun hc => ?_) (fun hc => ?_)
    · have hi2 := lt_len hc
      cbv
      refine Chk.mk (idx1 hi2) ?_
      cbv
      refine Chk.mk (idx2 hi2) ?_
      cbv
      refine Chk.mk (i0) ?_
      cbv
      refine Chk.mk (inc64 hi2 (by omega)) ?_
      cbv
      refine .mk (hR (i + 1) _ hi2 (by omega) ?_)
      cbv
      repeat' first | apply And.intro | exact trivial | exact SameI.mk (by with_reducible rfl) | exact SameN.mk (by with_reducible rfl) | exact SameL.mk (by with_reducible rfl) | exact SameB.mk (by with_reducible rfl) | exact LeN.mk (by with_reducible exact Nat.le_refl _) | apply SameI.mk | apply SameN.mk | apply SameL.mk | apply SameB.mk | apply LeN.mk
      · show aop (.bits .or .u16) (wordTo l i) (aop (.shl .u16) (at1 (ints l) (ofN i).toNat) (ofN i)) = _
        rw [ld]; rfl
      · exact (ofN_succ i).symm
      all_goals rfl
    · obtain rfl := ge_len hc hi
      cbv
      refine .mk ?_
      cbv
      exact .mk _ _ h2 ⟨trivial, .mk rfl⟩ (whs_rows _ _ _ _ rfl)
/-! ### bits -/
def bit16 (w : Int) (i : Nat) : Int := aop (.bits .and .u16) (aop (.shr .u16) w (ofN i)) 1
def bitsTo (n : Nat) (w : Int) (i : Nat) : List Int := (List.range n).map fun j => if j < i then bit16 w j else 0
theorem bitsTo_length (n : Nat) (w : Int) (i : Nat) : (bitsTo n w i).length = n := by simp [bitsTo]
theorem bitsTo_zero (n : Nat) (w : Int) : bitsTo n w 0 = List.replicate n 0 := by
  simp [bitsTo, List.map_const']
theorem bitsTo_set {n i : Nat} (w : Int) (hi : i < n) : (bitsTo n w i).set i (bit16 w i) = bitsTo n w (i + 1) := by
  apply List.ext_getElem?
  intro j
  rw [List.getElem?_set]
  simp only [bitsTo_length]
  by_cases hj : j < n
  · by_cases e : i = j
    · subst e; simp [bitsTo, hi]
    · rw [if_neg e]
      simp only [bitsTo, List.getElem?_map, List.getElem?_range hj, Option.map_some]
      by_cases e2 : j < i
      · rw [if_pos e2, if_pos (by omega)]
      · rw [if_neg e2, if_neg (by omega)]
  · by_cases e : i = j
    · omega
    · rw [if_neg e]
      simp [bitsTo, hj]
def bitsL (n : Nat) (w : Int) : List Int := bitsTo n w n
def cBits : Con := con (fun x : Nat × Int => [.int .u16 (.t fun _ => x.2), .int .i64 (.t fun _ => ofN x.1)]) (fun _ => []) (fun x => x.1 ≤ 1000) (fun x K => K (.sl 0 (.l 0) (.l 0) 1 (.t fun _ => x.1) (.t fun _ => x.1) false) [some ⟨true, .rows [.int .u16] fun _ => ints (bitsL x.1 x.2)⟩])
theorem s49 : Sound Tryd.prog 49 cBits := by
  refine k49.con tabOk envOk_nil mixed o49 fun x K hl h2 => ?_
  obtain ⟨n, w⟩ := x
  dsimp only at hl h2 ⊢
  cbv
  refine Chk.mk (mk1 (by omega) (by decide)) ?_
  cbv
  refine loop_inv [0, 5, 10, 11] (fun (i : Nat) => i ≤ n) (fun i => ⟨[.int .u16 (.t fun _ => w), .undef, .undef, .undef, .undef, .sl 0 (.l 0) (.l 0) 1 (.t fun _ => n) (.t fun _ => n) false, .undef, .undef, .undef, .undef, .int .i64 (.t fun _ => ofN n), .int .i64 (.t fun _ => ofN i), .undef, .undef, .undef, .undef, .undef, .undef, .undef, .undef, .undef, .undef, .undef], [some ⟨true, .rows [.int .u16] fun _ => ints (bitsTo n w i)⟩]⟩) (fun i => n - i) 0 (Nat.zero_le _) ?_ ?_
  · cbv
    repeat' first | apply And.intro | exact trivial | exact SameI.mk (by with_reducible rfl) | exact SameN.mk (by with_reducible rfl) | exact SameL.mk (by with_reducible rfl) | exact SameB.mk (by with_reducible rfl) | exact LeN.mk (by with_reducible exact Nat.le_refl _) | apply SameI.mk | apply SameN.mk | apply SameL.mk | apply SameB.mk | apply LeN.mk
    all_goals first | rfl | exact (ofN_succ _).symm | (simp only [toNat_ofN, NX.v, IX.v, Nat.le_refl]; done) | ((try simp only [toNat_ofN, NX.v, IX.v, nadd, nsub]); omega) | skip
    show List.replicate (ofN n).toNat [D.i 0] = _
    rw [bitsTo_zero, toNat_ofN, ints_zero]
  · intro i R hi hR
    have i0 := ofN_nonneg i
    cbv
    refine Br.mk (fun hc => ?_) (fun hc => ?_)
    · have hi2 := lt_len hc
      cbv
      refine Chk.mk (i0) ?_
      cbv
      refine Chk.mk (idx1 hi2) ?_
      cbv
      refine Chk.mk (idx2 (by rw [bitsTo_length]; exact hi2)) ?_
      cbv
      refine Chk.mk (inc64 hi2 (by omega)) ?_
      cbv
      refine .mk (hR (i + 1) _ hi2 (by omega) ?_)
      cbv
      repeat' first | apply And.intro | exact trivial | exact SameI.mk (by with_reducible rfl) | exact SameN.mk (by with_reducible rfl) | exact SameL.mk (by with_reducible rfl) | exact SameB.mk (by with_reducible rfl) | exact LeN.mk (by with_reducible exact Nat.le_refl _) | apply SameI.mk | apply SameN.mk | apply SameL.mk | apply SameB.mk | apply LeN.mk
      all_goals first | rfl | exact (ofN_succ _).symm | (simp only [toNat_ofN, NX.v, IX.v, Nat.le_refl]; done) | ((try simp only [toNat_ofN, NX.v, IX.v, nadd, nsub]); omega) | skip
      exact put_ints (by rw [bitsTo_length]; exact hi2) (bitsTo_set w hi2)
    · obtain rfl := ge_len hc hi
      cbv
      refine .mk ?_
      cbv
      refine .mk _ _ h2 ?_ ?_
      all_goals cbv
      all_goals repeat' first | apply And.intro | exact trivial | exact SameI.mk (by with_reducible rfl) | exact SameN.mk (by with_reducible rfl) | exact SameL.mk (by with_reducible rfl) | exact SameB.mk (by with_reducible rfl) | exact LeN.mk (by with_reducible exact Nat.le_refl _) | apply SameI.mk | apply SameN.mk | apply SameL.mk | apply SameB.mk | apply LeN.mk
      all_goals first | rfl | exact (ofN_succ _).symm | (simp only [toNat_ofN, NX.v, IX.v, Nat.le_refl]; done) | ((try simp only [toNat_ofN, NX.v, IX.v, nadd, nsub]); omega) | skip
/-! ### pick -/
def fillTo (n : Nat) (f : Nat → Int) (i : Nat) : List Int := (List.range n).map fun j => if j < i then f j else 0
theorem fillTo_length (n : Nat) (f : Nat → Int) (i : Nat) : (fillTo n f i).length = n := by simp [fillTo]
theorem fillTo_zero (n : Nat) (f : Nat → Int) : fillTo n f 0 = List.replicate n 0 := by simp [fillTo, List.map_const']
theorem fillTo_set {n i : Nat} (f : Nat → Int) (hi : i < n) : (fillTo n f i).set i (f i) = fillTo n f (i + 1) := by
  apply List.ext_getElem?
  intro j
  rw [List.getElem?_set]
  simp only [fillTo_length]
  by_cases hj : j < n
  · by_cases e : i = j
    · subst e; simp [fillTo, hi]
    · rw [if_neg e]
      simp only [fillTo, List.getElem?_map, List.getElem?_range hj, Option.map_some]
      by_cases e2 : j < i
      · rw [if_pos e2, if_pos (by omega)]
      · rw [if_neg e2, if_neg (by omega)]
  · by_cases e : i = j
    · omega
    · rw [if_neg e]
      simp [fillTo, hj]
def pickAt (l o : List Int) (j : Nat) : Int := l.getD (o.getD j 0).toNat 0
def pickL (l o : List Int) : List Int := fillTo o.length (pickAt l o) o.length
def cPick (k : IntKind) : Con := con (fun x : List Int × List Int => [.sl 0 (.l 0) (.l 0) 1 (.t fun _ => x.1.length) (.t fun _ => x.1.length) false, .sl 1 (.l 0) (.l 0) 1 (.t fun _ => x.2.length) (.t fun _ => x.2.length) false]) (fun x => [some ⟨true, .rows [.int k] fun _ => ints x.1⟩, some ⟨true, .rows [.int .i64] fun _ => ints x.2⟩])
  (fun x => x.2.length ≤ 1000 ∧ ∀ i, i < x.2.length → 0 ≤ x.2.getD i 0 ∧ x.2.getD i 0 < ofN x.1.length) (fun x K => K (.sl 2 (.l 0) (.l 0) 1 (.t fun _ => x.2.length) (.t fun _ => x.2.length) false) [some ⟨true, .rows [.int k] fun _ => ints x.1⟩, some ⟨true, .rows [.int .i64] fun _ => ints x.2⟩, some ⟨true, .rows [.int k] fun _ => ints (pickL x.1 x.2)⟩])
theorem s48 : Sound Tryd.prog 48 (cPick .u16) := by
  refine k48.con tabOk envOk_nil mixed o48 fun x K hl h2 => ?_
  obtain ⟨l, o⟩ := x
  obtain ⟨hl, ho⟩ := hl
  dsimp only at hl ho h2 ⊢
  cbv
  refine Chk.mk (mk1 (by omega) (by decide)) ?_
  cbv
  refine loop_inv [0, 5, 11, 12, 13] (fun (i : Nat) => i ≤ o.length) (fun i => ⟨[.sl 0 (.l 0) (.l 0) 1 (.t fun _ => l.length) (.t fun _ => l.length) false, .undef, .undef, .undef, .undef, .sl 2 (.l 0) (.l 0) 1 (.t fun _ => o.length) (.t fun _ => o.length) false, .undef, .undef, .undef, .undef, .undef, .sl 1 (.l 0) (.l 0) 1 (.t fun _ => o.length) (.t fun _ => o.length) false, .int .i64 (.t fun _ => ofN o.length), .int .i64 (.t fun _ => ofN i), .undef, .undef, .undef, .undef, .undef, .undef, .undef, .undef, .undef, .undef, .undef, .undef, .undef], [some ⟨true, .rows [.int .u16] fun _ => ints l⟩, some ⟨true, .rows [.int .i64] fun _ => ints o⟩, some ⟨true, .rows [.int .u16] fun _ => ints (fillTo o.length (pickAt l o) i)⟩]⟩) (fun i => o.length - i) 0 (Nat.zero_le _) ?_ ?_
  · cbv
    repeat' first | apply And.intro | exact trivial | exact SameI.mk (by with_reducible rfl) | exact SameN.mk (by with_reducible rfl) | exact SameL.mk (by with_reducible rfl) | exact SameB.mk (by with_reducible rfl) | exact LeN.mk (by with_reducible exact Nat.le_refl _) | apply SameI.mk | apply SameN.mk | apply SameL.mk | apply SameB.mk | apply LeN.mk
    all_goals first | rfl | exact (ofN_succ _).symm | (simp only [toNat_ofN, NX.v, IX.v, Nat.le_refl]; done) | ((try simp only [toNat_ofN, NX.v, IX.v, nadd, nsub]); omega) | skip
    show List.replicate (ofN o.length).toNat [D.i 0] = _
    rw [fillTo_zero, toNat_ofN, ints_zero]
  · intro i R hi hR
    have i0 := ofN_nonneg i
    cbv
    refine Br.mk (fun hc => ?_) (fun hc => ?_)
    · have hi2 := lt_len hc
      have hv := ho i hi2
      have ea : at1 (ints o) (ofN i).toNat = o.getD i 0 := ld
      cbv
      refine Chk.mk (idx1 hi2) ?_
      cbv
      refine Chk.mk (idx2 hi2) ?_
      cbv
      refine Chk.mk ?_ ?_
      · show 0 ≤ at1 (ints o) (ofN i).toNat ∧ at1 (ints o) (ofN i).toNat < ofN l.length
        rw [ea]; exact hv
      cbv
      refine Chk.mk ?_ ?_
      · show 0 ≤ ofN (at1 (ints o) (ofN i).toNat).toNat ∧ ofN (at1 (ints o) (ofN i).toNat).toNat < ofN (ints l).length
        rw [ea]; exact idx4 hv.1 hv.2
      cbv
      refine Chk.mk (idx1 hi2) ?_
      cbv
      refine Chk.mk (idx2 (by rw [fillTo_length]; exact hi2)) ?_
      cbv
      refine Chk.mk (inc64 hi2 (by omega)) ?_
      cbv
      refine .mk (hR (i + 1) _ hi2 (by omega) ?_)
      cbv
      repeat' first | apply And.intro | exact trivial | exact SameI.mk (by with_reducible rfl) | exact SameN.mk (by with_reducible rfl) | exact SameL.mk (by with_reducible rfl) | exact SameB.mk (by with_reducible rfl) | exact LeN.mk (by with_reducible exact Nat.le_refl _) | apply SameI.mk | apply SameN.mk | apply SameL.mk | apply SameB.mk | apply LeN.mk
      all_goals first | rfl | exact (ofN_succ _).symm | (simp only [toNat_ofN, NX.v, IX.v, Nat.le_refl]; done) | ((try simp only [toNat_ofN, NX.v, IX.v, nadd, nsub]); omega) | skip
      refine put_ints (by rw [fillTo_length]; exact hi2) ?_
      have e2 : at1 (ints l) (at1 (ints o) (ofN i).toNat).toNat = pickAt l o i := by rw [ea, at1_ints]; rfl
      exact (congrArg ((fillTo o.length (pickAt l o) i).set i) e2).trans (fillTo_set _ hi2)
    · obtain rfl := ge_len hc hi
      cbv
      refine .mk ?_
      cbv
      refine .mk _ _ h2 ?_ ?_
      all_goals cbv
      all_goals repeat' first | apply And.intro | exact trivial | exact SameI.mk (by with_reducible rfl) | exact SameN.mk (by with_reducible rfl) | exact SameL.mk (by with_reducible rfl) | exact SameB.mk (by with_reducible rfl) | exact LeN.mk (by with_reducible exact Nat.le_refl _) | apply SameI.mk | apply SameN.mk | apply SameL.mk | apply SameB.mk | apply LeN.mk
      all_goals first | rfl | exact (ofN_succ _).symm | (simp only [toNat_ofN, NX.v, IX.v, Nat.le_refl]; done) | ((try simp only [toNat_ofN, NX.v, IX.v, nadd, nsub]); omega) | skip
end Go.Proofs.YtlgmbpnlakjefaaDoor
end

section
/- Contracts: orders undone and numbered. -/
namespace Go.Proofs.YtlgmbpnlakjefaaDoor
open Go.Sy
set_option maxRecDepth 100000
set_option maxHeartbeats 1000000
set_option linter.unusedSimpArgs false
set_option linter.unusedVariables false
/-! ### inverse -/
def invTo (l : List Int) : Nat → List Int
  | 0 => List.replicate l.length 0
  | i + 1 => (invTo l i).set (l.getD i 0).toNat (ofN i)
theorem invTo_length (l : List Int) (i : Nat) : (invTo l i).length = l.length := by
  induction i with
  | zero => simp [invTo]
  | succ i ih => simp [invTo, ih]
def cInverse : Con := con (fun l : List Int => [.sl 0 (.l 0) (.l 0) 1 (.t fun _ => l.length) (.t fun _ => l.length) false]) (fun l => [some ⟨true, .rows [.int .i64] fun _ => ints l⟩]) (fun l => l.length ≤ 1000 ∧ ∀ i, i < l.length → 0 ≤ l.getD i 0 ∧ l.getD i 0 < ofN l.length)
  (fun l K => K (.sl 1 (.l 0) (.l 0) 1 (.t fun _ => l.length) (.t fun _ => l.length) false) [some ⟨true, .rows [.int .i64] fun _ => ints l⟩, some ⟨true, .rows [.int .i64] fun _ => ints (invTo l l.length)⟩])
theorem s51 : Sound Tryd.prog 51 cInverse := by
  refine k51.con tabOk envOk_nil mixed o51 fun l K hl h2 => ?_
  obtain ⟨hl, ho⟩ := hl
  cbv
  refine Chk.mk (mk1 (by omega) (by decide)) ?_
  cbv
  refine loop_inv [3, 9, 10, 11] (fun (i : Nat) => i ≤ l.length) (fun i => ⟨[.undef, .undef, .undef, .sl 1 (.l 0) (.l 0) 1 (.t fun _ => l.length) (.t fun _ => l.length) false, .undef, .undef, .undef, .undef, .undef, .sl 0 (.l 0) (.l 0) 1 (.t fun _ => l.length) (.t fun _ => l.length) false, .int .i64 (.t fun _ => ofN l.length), .int .i64 (.t fun _ => ofN i), .undef, .undef, .undef, .undef, .undef, .undef, .undef, .undef, .undef, .undef], [some ⟨true, .rows [.int .i64] fun _ => ints l⟩, some ⟨true, .rows [.int .i64] fun _ => ints (invTo l i)⟩]⟩) (fun i => l.length - i) 0 (Nat.zero_le _) ?_ ?_
  · cbv
    repeat' first | apply And.intro | exact trivial | exact SameI.mk (by with_reducible rfl) | exact SameN.mk (by with_reducible rfl) | exact SameL.mk (by with_reducible rfl) | exact SameB.mk (by with_reducible rfl) | exact LeN.mk (by with_reducible exact Nat.le_refl _) | apply SameI.mk | apply SameN.mk | apply SameL.mk | apply SameB.mk | apply LeN.mk
    all_goals first | rfl | exact (ofN_succ _).symm | (simp only [toNat_ofN, NX.v, IX.v, Nat.le_refl]; done) | ((try simp only [toNat_ofN, NX.v, IX.v, nadd, nsub]); omega) | skip
    show List.replicate (ofN l.length).toNat [D.i 0] = _
    rw [toNat_ofN, ints_zero]; rfl
  · intro i R hi hR
    have i0 := ofN_nonneg i
    cbv
    refine Br.mk (fun hc => ?_) (fun hc => ?_)
    · have hi2 := lt_len hc
      have hv := ho i hi2
      have ea : at1 (ints l) (ofN i).toNat = l.getD i 0 := ld
      cbv
      refine Chk.mk (idx1 hi2) ?_
      cbv
      refine Chk.mk (idx2 hi2) ?_
      cbv
      refine Chk.mk ?_ ?_
      · show 0 ≤ at1 (ints l) (ofN i).toNat ∧ at1 (ints l) (ofN i).toNat < ofN l.length
        rw [ea]; exact hv
      cbv
      refine Chk.mk ?_ ?_
      · show 0 ≤ ofN (at1 (ints l) (ofN i).toNat).toNat ∧ ofN (at1 (ints l) (ofN i).toNat).toNat < ofN (ints (invTo l i)).length
        rw [ea]; exact idx4 hv.1 (by rw [invTo_length]; exact hv.2)
      cbv
      refine Chk.mk (inc64 hi2 (by omega)) ?_
      cbv
      refine .mk (hR (i + 1) _ hi2 (by omega) ?_)
      cbv
      repeat' first | apply And.intro | exact trivial | exact SameI.mk (by with_reducible rfl) | exact SameN.mk (by with_reducible rfl) | exact SameL.mk (by with_reducible rfl) | exact SameB.mk (by with_reducible rfl) | exact LeN.mk (by with_reducible exact Nat.le_refl _) | apply SameI.mk | apply SameN.mk | apply SameL.mk | apply SameB.mk | apply LeN.mk
      all_goals first | rfl | exact (ofN_succ _).symm | (simp only [toNat_ofN, NX.v, IX.v, Nat.le_refl]; done) | ((try simp only [toNat_ofN, NX.v, IX.v, nadd, nsub]); omega) | skip
      show (ints (invTo l i)).set (at1 (ints l) (ofN i).toNat).toNat (((ints (invTo l i)).getD (at1 (ints l) (ofN i).toNat).toNat []).set 0 (.i (ofN i))) = _
      rw [ea, ints_set _ _ _ (by rw [invTo_length]; have := hv.2; simp only [ofN] at this; omega)]
      rfl
    · obtain rfl := ge_len hc hi
      cbv
      refine .mk ?_
      cbv
      refine .mk _ _ h2 ?_ ?_
      all_goals cbv
      all_goals repeat' first | apply And.intro | exact trivial | exact SameI.mk (by with_reducible rfl) | exact SameN.mk (by with_reducible rfl) | exact SameL.mk (by with_reducible rfl) | exact SameB.mk (by with_reducible rfl) | exact LeN.mk (by with_reducible exact Nat.le_refl _) | apply SameI.mk | apply SameN.mk | apply SameL.mk | apply SameB.mk | apply LeN.mk
      all_goals first | rfl | exact (ofN_succ _).symm | (simp only [toNat_ofN, NX.v, IX.v, Nat.le_refl]; done) | ((try simp only [toNat_ofN, NX.v, IX.v, nadd, nsub]); omega) | skip
/-! ### number -/
def lessTo (l : List Int) (i : Nat) : Nat → Nat
  | 0 => 0
  | j + 1 => lessTo l i j + (if l.getD (i + 1 + j) 0 < l.getD i 0 then 1 else 0)
theorem lessTo_le (l : List Int) (i j : Nat) : lessTo l i j ≤ j := by
  induction j with
  | zero => exact Nat.le_refl _
  | succ j ih => simp only [lessTo]; split <;> omega
def numTo (l : List Int) : Nat → Nat
  | 0 => 0
  | i + 1 => numTo l i * (l.length - i) + lessTo l i (l.length - (i + 1))
theorem fact_pos (n : Nat) : 0 < fact n := by
  induction n with
  | zero => decide
  | succ n ih => simp only [fact]; exact Nat.mul_pos ih (by omega)
theorem numTo_lt (l : List Int) (i : Nat) (hi : i ≤ l.length) : (numTo l i + 1) * fact (l.length - i) ≤ fact l.length := by
  induction i with
  | zero => simp [numTo]
  | succ i ih =>
    have h := ih (by omega)
    have e : l.length - i = (l.length - (i + 1)) + 1 := by omega
    refine Nat.le_trans ?_ h
    have hl := lessTo_le l i (l.length - (i + 1))
    simp only [numTo]
    rw [e]
    generalize l.length - (i + 1) = m at *
    simp only [fact]
    have : (numTo l i * (m + 1) + lessTo l i m + 1) ≤ (numTo l i + 1) * (m + 1) := by
      rw [Nat.add_mul]; omega
    calc _ ≤ (numTo l i + 1) * (m + 1) * fact m := Nat.mul_le_mul_right _ this
      _ = _ := by rw [Nat.mul_assoc, Nat.mul_comm (m + 1)]
def cNumber : Con := con (fun l : List Int => [.sl 0 (.l 0) (.l 0) 1 (.t fun _ => l.length) (.t fun _ => l.length) false]) (fun l => [some ⟨true, .rows [.int .i64] fun _ => ints l⟩]) (fun l => l.length ≤ 15)
  (fun l K => K (.int .i64 (.t fun _ => ofN (numTo l l.length))) [some ⟨true, .rows [.int .i64] fun _ => ints l⟩])
theorem s52 : Sound Tryd.prog 52 cNumber := by
  refine k52.con tabOk envOk_nil mixed o52 fun l K hl h2 => ?_
  cbv
  refine loop_inv [0, 3, 9, 10, 11] (fun (i : Nat) => i ≤ l.length) (fun i => ⟨[.sl 0 (.l 0) (.l 0) 1 (.t fun _ => l.length) (.t fun _ => l.length) false, .undef, .undef, .int .i64 (.t fun _ => ofN (numTo l i)), .undef, .undef, .undef, .undef, .undef, .sl 0 (.l 0) (.l 0) 1 (.t fun _ => l.length) (.t fun _ => l.length) false, .int .i64 (.t fun _ => ofN l.length), .int .i64 (.t fun _ => ofN i), .undef, .undef, .undef, .undef, .undef, .undef, .undef, .undef, .undef, .undef, .undef, .undef, .undef, .undef, .undef, .undef, .undef, .undef, .undef, .undef, .undef, .undef, .undef, .undef, .undef, .undef, .undef, .undef, .undef], [some ⟨true, .rows [.int .i64] fun _ => ints l⟩]⟩) (fun i => l.length - i) 0 (Nat.zero_le _) ?_ ?_
  · cbv
    repeat' first | apply And.intro | exact trivial | exact SameI.mk (by with_reducible rfl) | exact SameN.mk (by with_reducible rfl) | exact SameL.mk (by with_reducible rfl) | exact SameB.mk (by with_reducible rfl) | exact LeN.mk (by with_reducible exact Nat.le_refl _) | apply SameI.mk | apply SameN.mk | apply SameL.mk | apply SameB.mk | apply LeN.mk
    all_goals first | rfl | exact (ofN_succ _).symm | (simp only [toNat_ofN, NX.v, IX.v, Nat.le_refl]; done) | ((try simp only [toNat_ofN, NX.v, IX.v, nadd, nsub]); omega) | skip
  · intro i R hi hR
    have i0 := ofN_nonneg i
    cbv
    refine Br.mk (fun hc => ?_) (fun hc => ?_)
    · have hi2 := lt_len hc
      have ea : at1 (ints l) (ofN i).toNat = l.getD i 0 := ld
      cbv
      refine Chk.mk (idx1 hi2) ?_
      cbv
      refine Chk.mk (idx2 hi2) ?_
      cbv
      refine Chk.mk (inc64 hi2 (by omega)) ?_
      cbv
      have e1 : (aop .add (ofN i) 1).toNat = i + 1 := by rw [aop_add]; simp only [ofN]; omega
      refine Chk.mk ((by show 0 ≤ ofN i + 1; omega)) ?_
      cbv
      refine Chk.mk (Nat.le_refl _) ?_
      cbv
      refine Chk.mk (Nat.le_refl _) ?_
      cbv
      refine Chk.mk (by show (aop .add (ofN i) 1).toNat ≤ l.length; omega) ?_
      cbv
      refine loop_inv [0, 3, 4, 5, 6, 9, 10, 11, 19, 20, 21] (fun (j : Nat) => j ≤ l.length - (i + 1)) (fun j => ⟨[.sl 0 (.l 0) (.l 0) 1 (.t fun _ => l.length) (.t fun _ => l.length) false, .undef, .undef, .int .i64 (.t fun _ => ofN (numTo l i)), .int .i64 (.t fun _ => ofN i), .int .i64 (.t fun _ => l.getD i 0), .int .i64 (.t fun _ => ofN (lessTo l i j)), .undef, .undef, .sl 0 (.l 0) (.l 0) 1 (.t fun _ => l.length) (.t fun _ => l.length) false, .int .i64 (.t fun _ => ofN l.length), .int .i64 (.t fun _ => ofN i), .undef, .undef, .undef, .undef, .undef, .undef, .undef, .sl 0 (.t fun _ => i + 1) (.l 0) 1 (.t fun _ => l.length - (i + 1)) (.t fun _ => l.length - (i + 1)) false, .int .i64 (.t fun _ => ofN (l.length - (i + 1))), .int .i64 (.t fun _ => ofN j), .undef, .undef, .undef, .undef, .undef, .undef, .undef, .undef, .undef, .undef, .undef, .undef, .undef, .undef, .undef, .undef, .undef, .undef, .undef], [some ⟨true, .rows [.int .i64] fun _ => ints l⟩]⟩) (fun j => l.length - j) 0 (Nat.zero_le _) ?_ ?_
      · cbv
        repeat' first | apply And.intro | exact trivial | exact SameI.mk (by with_reducible rfl) | exact SameN.mk (by with_reducible rfl) | exact SameL.mk (by with_reducible rfl) | exact SameB.mk (by with_reducible rfl) | exact LeN.mk (by with_reducible exact Nat.le_refl _) | apply SameI.mk | apply SameN.mk | apply SameL.mk | apply SameB.mk | apply LeN.mk
        all_goals first | rfl | exact (ofN_succ _).symm | (simp only [toNat_ofN, NX.v, IX.v, Nat.le_refl]; done) | ((try simp only [toNat_ofN, NX.v, IX.v, nadd, nsub]); omega) | skip
        all_goals simp only [NX.v, IX.v, nsub, e1]
        all_goals first | exact ea | exact Nat.le_refl _ | skip
      · intro j R' hj hR'
        have j0 := ofN_nonneg j
        cbv
        refine Br.mk (fun hd => ?_) (fun hd => ?_)
        · have hj2 := lt_len hd
          cbv
          refine Chk.mk (idx1 hj2) ?_
          cbv
          refine Chk.mk ?_ ?_
          · show 0 ≤ ofN (nadd (i + 1) (ofN j).toNat) ∧ ofN (nadd (i + 1) (ofN j).toNat) < ofN (ints l).length
            rw [toNat_ofN, ints_length]; simp only [nadd, ofN]; omega
          have eb : at1 (ints l) (nadd (i + 1) (ofN j).toNat) = l.getD (i + 1 + j) 0 := by rw [toNat_ofN, at1_ints]; rfl
          cbv
          refine Br.mk (fun hb => ?_) (fun hb => ?_)
          · have hb : l.getD (i + 1 + j) 0 < l.getD i 0 := by
              have := lt_t.1 hb
              rw [← eb]; exact this
            have hl1 := lessTo_le l i j
            cbv
            refine Chk.mk (inR64 (by rw [aop_add]; simp only [ofN]; omega)) ?_
            cbv
            refine Chk.mk (inR64 (by rw [aop_add]; simp only [ofN]; omega)) ?_
            cbv
            refine .mk (hR' (j + 1) _ hj2 (by omega) ?_)
            cbv
            repeat' first | apply And.intro | exact trivial | exact SameI.mk (by with_reducible rfl) | exact SameN.mk (by with_reducible rfl) | exact SameL.mk (by with_reducible rfl) | exact SameB.mk (by with_reducible rfl) | exact LeN.mk (by with_reducible exact Nat.le_refl _) | apply SameI.mk | apply SameN.mk | apply SameL.mk | apply SameB.mk | apply LeN.mk
            all_goals first | rfl | exact (ofN_succ _).symm | (simp only [toNat_ofN, NX.v, IX.v, Nat.le_refl]; done) | ((try simp only [toNat_ofN, NX.v, IX.v, nadd, nsub]); omega) | skip
            show aop .add (ofN (lessTo l i j)) 1 = ofN (lessTo l i (j + 1))
            simp only [lessTo, hb, if_true, aop_add, ofN]; omega
          · have hb : ¬ l.getD (i + 1 + j) 0 < l.getD i 0 := by
              have := lt_f.1 hb
              rw [← eb]; exact this
            cbv
            refine Chk.mk (inR64 (by rw [aop_add]; simp only [ofN]; omega)) ?_
            cbv
            refine .mk (hR' (j + 1) _ hj2 (by omega) ?_)
            cbv
            repeat' first | apply And.intro | exact trivial | exact SameI.mk (by with_reducible rfl) | exact SameN.mk (by with_reducible rfl) | exact SameL.mk (by with_reducible rfl) | exact SameB.mk (by with_reducible rfl) | exact LeN.mk (by with_reducible exact Nat.le_refl _) | apply SameI.mk | apply SameN.mk | apply SameL.mk | apply SameB.mk | apply LeN.mk
            all_goals first | rfl | exact (ofN_succ _).symm | (simp only [toNat_ofN, NX.v, IX.v, Nat.le_refl]; done) | ((try simp only [toNat_ofN, NX.v, IX.v, nadd, nsub]); omega) | skip
            show ofN (lessTo l i j) = ofN (lessTo l i (j + 1))
            simp only [lessTo, hb, if_false, Nat.add_zero]
        · obtain rfl := ge_len hd hj
          have hl1 := lessTo_le l i (l.length - (i + 1))
          have hb := numTo_lt l (i + 1) hi2
          have hb0 := numTo_lt l i hi
          have hp := fact_pos (l.length - (i + 1))
          have h15 : fact l.length ≤ 1307674368000 := Nat.le_trans (fact_le l.length 15 hl) (by decide)
          have h3 : numTo l (i + 1) < fact l.length := by
            have := Nat.le_mul_of_pos_right (numTo l (i + 1) + 1) hp
            omega
          have h4 : numTo l (i + 1) = numTo l i * (l.length - i) + lessTo l i (l.length - (i + 1)) := rfl
          have h5 : ofN (numTo l i) * (ofN l.length - ofN i) = ofN (numTo l i * (l.length - i)) := by
            simp only [ofN]; rw [Int.natCast_mul]; congr 1; omega
          cbv
          refine .mk ?_
          cbv
          refine Chk.mk (inR64 (by rw [aop_sub]; simp only [ofN]; omega)) ?_
          cbv
          refine Chk.mk (inR64 ?_) ?_
          · show -9223372036854775808 ≤ ofN (numTo l i) * (ofN l.length - ofN i) ∧ ofN (numTo l i) * (ofN l.length - ofN i) ≤ 9223372036854775807
            rw [h5]; simp only [ofN]; omega
          cbv
          refine Chk.mk (inR64 ?_) ?_
          · show -9223372036854775808 ≤ ofN (numTo l i) * (ofN l.length - ofN i) + ofN (lessTo l i (l.length - (i + 1))) ∧ ofN (numTo l i) * (ofN l.length - ofN i) + ofN (lessTo l i (l.length - (i + 1))) ≤ 9223372036854775807
            rw [h5]; simp only [ofN]; omega
          cbv
          refine Chk.mk (inc64 hi2 (by omega)) ?_
          cbv
          refine .mk (hR (i + 1) _ hi2 (by omega) ?_)
          cbv
          repeat' first | apply And.intro | exact trivial | exact SameI.mk (by with_reducible rfl) | exact SameN.mk (by with_reducible rfl) | exact SameL.mk (by with_reducible rfl) | exact SameB.mk (by with_reducible rfl) | exact LeN.mk (by with_reducible exact Nat.le_refl _) | apply SameI.mk | apply SameN.mk | apply SameL.mk | apply SameB.mk | apply LeN.mk
          all_goals first | rfl | exact (ofN_succ _).symm | (simp only [toNat_ofN, NX.v, IX.v, Nat.le_refl]; done) | ((try simp only [toNat_ofN, NX.v, IX.v, nadd, nsub]); omega) | skip
          show ofN (numTo l i) * (ofN l.length - ofN i) + ofN (lessTo l i (l.length - (i + 1))) = ofN (numTo l (i + 1))
          rw [h5, h4]; simp only [ofN]; omega
    · obtain rfl := ge_len hc hi
      cbv
      refine .mk ?_
      cbv
      refine .mk _ _ h2 ?_ ?_
      all_goals cbv
      all_goals repeat' first | apply And.intro | exact trivial | exact SameI.mk (by with_reducible rfl) | exact SameN.mk (by with_reducible rfl) | exact SameL.mk (by with_reducible rfl) | exact SameB.mk (by with_reducible rfl) | exact LeN.mk (by with_reducible exact Nat.le_refl _) | apply SameI.mk | apply SameN.mk | apply SameL.mk | apply SameB.mk | apply LeN.mk
      all_goals first | rfl | exact (ofN_succ _).symm | (simp only [toNat_ofN, NX.v, IX.v, Nat.le_refl]; done) | ((try simp only [toNat_ofN, NX.v, IX.v, nadd, nsub]); omega) | skip
end Go.Proofs.YtlgmbpnlakjefaaDoor
end

section
/- Contracts: an entry struck; the order of a key. -/
namespace Go.Proofs.YtlgmbpnlakjefaaDoor
open Go.Sy
set_option maxRecDepth 100000
set_option maxHeartbeats 1000000
set_option linter.unusedSimpArgs false
set_option linter.unusedVariables false
/-! ### Delete -/
theorem del_rows (l m : List Int) (a : Nat) (ha : a < l.length) :
    ((l ++ m).take a ++ ((l ++ m).drop (a + 1)).take (l.length - (a + 1)) ++ (l ++ m).drop (a + (l.length - (a + 1)))).take (l.length - 1) ++ List.replicate (l.length - (l.length - 1)) 0 ++
      ((l ++ m).take a ++ ((l ++ m).drop (a + 1)).take (l.length - (a + 1)) ++ (l ++ m).drop (a + (l.length - (a + 1)))).drop l.length = l.eraseIdx a ++ 0 :: m := by
  have h1 : (l ++ m).take a = l.take a := List.take_append_of_le_length (by omega)
  have h2 : ((l ++ m).drop (a + 1)).take (l.length - (a + 1)) = l.drop (a + 1) := by
    rw [List.drop_append_of_le_length (by omega)]
    exact List.take_left' (by simp)
  have h3 : l.take a ++ l.drop (a + 1) = l.eraseIdx a := (List.eraseIdx_eq_take_drop_succ l a).symm
  have h4 : (l.eraseIdx a).length = l.length - 1 := by rw [List.length_eraseIdx]; simp [ha]
  rw [h1, h2, h3, List.take_left' h4]
  have h5 : l.length - (l.length - 1) = 1 := by omega
  rw [h5, List.append_assoc]
  congr 1
  have h6 : (l.eraseIdx a ++ (l ++ m).drop (a + (l.length - (a + 1)))).drop l.length = m := by
    have e : l.length = (l.eraseIdx a).length + 1 := by omega
    rw [e, List.drop_append, ← e]
    have e3 : a + (l.length - (a + 1)) = l.length - 1 := by omega
    rw [e3, List.drop_drop, List.drop_eq_nil_of_le (by omega)]
    rw [show l.length - 1 + (l.length - (l.eraseIdx a).length) = l.length from by omega]
    simp
  rw [h6]; rfl
def cDelete : Con := con (fun x : List Int × List Int × Nat => [.sl 0 (.l 0) (.l 0) 1 (.t fun _ => x.1.length) (.t fun _ => x.1.length) false, .int .i64 (.t fun _ => ofN x.2.2), .int .i64 (.t fun _ => ofN x.2.2 + 1)]) (fun x => [some ⟨true, .rows [.int .i64] fun _ => ints (x.1 ++ x.2.1)⟩]) (fun x => x.1.length + x.2.1.length ≤ 1000 ∧ x.2.2 < x.1.length)
  (fun x K => K (.sl 0 (.l 0) (.l 0) 1 (.t fun _ => x.1.length - 1) (.t fun _ => x.1.length - 1) false) [some ⟨true, .rows [.int .i64] fun _ => ints (x.1.eraseIdx x.2.2 ++ (0 :: x.2.1))⟩])
theorem s59 : Sound Tryd.prog 59 cDelete := by
  refine k59.con tabOk envOk_nil mixed o59 fun x K hl h2 => ?_
  obtain ⟨l, m, a⟩ := x
  obtain ⟨hl, ha⟩ := hl
  dsimp only at hl ha h2 ⊢
  have a0 := ofN_nonneg a
  have e1 : (ofN a + 1).toNat = a + 1 := by simp only [ofN]; omega
  have elen : (ints (l ++ m)).length = l.length + m.length := by rw [ints_length]; simp
  cbv
  refine Chk.mk (ofN_nonneg _) ?_
  cbv
  refine Chk.mk ((by show 0 ≤ ofN a + 1; omega)) ?_
  cbv
  refine Chk.mk (a0) ?_
  cbv
  refine Chk.mk (Nat.le_of_eq (toNat_ofN _)) ?_
  cbv
  refine Chk.mk (by show (ofN a + 1).toNat ≤ (ofN l.length).toNat; rw [e1, toNat_ofN]; omega) ?_
  cbv
  refine Chk.mk (by show (ofN a).toNat ≤ (ofN a + 1).toNat; rw [e1, toNat_ofN]; omega) ?_
  cbv
  refine Br.mk (fun hb => ?_) (fun hb => ?_)
  · have := eq_t.1 hb; omega
  cbv
  refine Chk.mk (a0) ?_
  cbv
  refine Chk.mk (Nat.le_refl _) ?_
  cbv
  refine Chk.mk (by show (ofN a).toNat ≤ l.length; rw [toNat_ofN]; omega) ?_
  cbv
  refine Chk.mk ((by show 0 ≤ ofN a + 1; omega)) ?_
  cbv
  refine Chk.mk (Nat.le_refl _) ?_
  cbv
  refine Chk.mk (Nat.le_refl _) ?_
  cbv
  refine Chk.mk (by show (ofN a + 1).toNat ≤ l.length; omega) ?_
  cbv
  have e2 : nsub l.length (ofN a + 1).toNat = l.length - (a + 1) := by rw [e1]; rfl
  refine Chk.mk (by show nadd (ofN a + 1).toNat (nsub l.length (ofN a + 1).toNat) ≤ (ints (l ++ m)).length; rw [e1, elen]; simp only [nadd, nsub]; omega) ?_
  cbv
  refine Chk.mk (by show (ofN a).toNat ≤ (ints (l ++ m)).length; rw [toNat_ofN, elen]; omega) ?_
  cbv
  refine Chk.mk (by show ((ofN a).toNat + nsub l.length (ofN a + 1).toNat) * 8 ≤ maxBytes; rw [toNat_ofN, e2]; simp only [maxBytes]; omega) ?_
  cbv
  refine App.inplace rfl (by show (ofN a).toNat + nsub l.length (ofN a + 1).toNat ≤ l.length; rw [toNat_ofN, e2]; omega) ?_
  cbv
  refine Chk.mk (by (try simp only [NX.v, IX.v, nadd, nsub, nmul, aop_add, aop_sub, aop_mul, toNat_ofN, ints_length, List.length_append, List.length_take, List.length_drop, List.length_replicate, List.length_cons, List.length_nil, List.length_map, maxBytes]); (try simp only [ofN]); omega) ?_
  cbv
  refine Chk.mk (by (try simp only [NX.v, IX.v, nadd, nsub, nmul, aop_add, aop_sub, aop_mul, toNat_ofN, ints_length, List.length_append, List.length_take, List.length_drop, List.length_replicate, List.length_cons, List.length_nil, List.length_map, maxBytes]); (try simp only [ofN]); omega) ?_
  cbv
  refine Chk.mk (by (try simp only [NX.v, IX.v, nadd, nsub, nmul, aop_add, aop_sub, aop_mul, toNat_ofN, ints_length, List.length_append, List.length_take, List.length_drop, List.length_replicate, List.length_cons, List.length_nil, List.length_map, maxBytes]); (try simp only [ofN]); omega) ?_
  cbv
  refine Chk.mk (by (try simp only [NX.v, IX.v, nadd, nsub, nmul, aop_add, aop_sub, aop_mul, toNat_ofN, ints_length, List.length_append, List.length_take, List.length_drop, List.length_replicate, List.length_cons, List.length_nil, List.length_map, maxBytes]); (try simp only [ofN]); omega) ?_
  cbv
  refine Chk.mk (by (try simp only [NX.v, IX.v, nadd, nsub, nmul, aop_add, aop_sub, aop_mul, toNat_ofN, ints_length, List.length_append, List.length_take, List.length_drop, List.length_replicate, List.length_cons, List.length_nil, List.length_map, maxBytes, e1]); (try simp only [ofN]); omega) ?_
  cbv
  refine Chk.mk (by (try simp only [NX.v, IX.v, nadd, nsub, nmul, aop_add, aop_sub, aop_mul, toNat_ofN, ints_length, List.length_append, List.length_take, List.length_drop, List.length_replicate, List.length_cons, List.length_nil, List.length_map, maxBytes, e1]); (try simp only [ofN]); omega) ?_
  cbv
  refine .mk _ _ h2 ?_ ?_
  · cbv
    repeat' first | apply And.intro | exact trivial | exact SameI.mk (by with_reducible rfl) | exact SameN.mk (by with_reducible rfl) | exact SameL.mk (by with_reducible rfl) | exact SameB.mk (by with_reducible rfl) | exact LeN.mk (by with_reducible exact Nat.le_refl _) | apply SameI.mk | apply SameN.mk | apply SameL.mk | apply SameB.mk | apply LeN.mk
    all_goals simp only [NX.v, IX.v, nadd, nsub, toNat_ofN, e1]
    all_goals first | omega | skip
  · cbv
    repeat' first | apply And.intro | exact trivial | exact SameI.mk (by with_reducible rfl) | exact SameN.mk (by with_reducible rfl) | exact SameL.mk (by with_reducible rfl) | exact SameB.mk (by with_reducible rfl) | exact LeN.mk (by with_reducible exact Nat.le_refl _) | apply SameI.mk | apply SameN.mk | apply SameL.mk | apply SameB.mk | apply LeN.mk
    show List.take (ofN (nadd (ofN a).toNat (nsub l.length (ofN a + 1).toNat))).toNat _ ++ List.replicate (nsub (ofN l.length).toNat (ofN (nadd (ofN a).toNat (nsub l.length (ofN a + 1).toNat))).toNat) [D.i 0] ++ List.drop _ _ = _
    have e3 : a + (l.length - (a + 1)) = l.length - 1 := by omega
    have e4 : l.length - 1 + (l.length - (l.length - 1)) = l.length := by omega
    simp only [NX.v, IX.v, nadd, nsub, toNat_ofN, e1, e3, e4, ints_zero, ints_append, ints_take, ints_drop, Nat.zero_add]
    have := del_rows l m a ha
    rw [e3] at this
    rw [this]
end Go.Proofs.YtlgmbpnlakjefaaDoor
end
