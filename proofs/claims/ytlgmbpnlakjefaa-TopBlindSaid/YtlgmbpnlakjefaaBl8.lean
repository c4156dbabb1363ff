/- Contracts: the talk of two parties. -/
import Derived.Test.YtlgmbpnlakjefaaBl7
namespace Go.Proofs.Ytlgmbpnlakjefaa
open Go.Sy
set_option maxRecDepth 100000
set_option maxHeartbeats 1000000
set_option linter.unusedSimpArgs false
set_option linter.unusedVariables false
def countF (w p : Nat → Int) : Nat → Int
  | 0 => 0
  | i + 1 => opOf 104 (opOf 113 (countF w p i) (w i)) (opOf 105 2 (p i))
theorem countTo_eq {lw lp : List (List D)} {w p : Nat → Int} : ∀ {n : Nat}, (∀ i, i < n → at1 lw i = w i ∧ at1 lp i = p i) → countTo lw lp n = countF w p n
  | 0, _ => rfl
  | n + 1, h => by
    simp only [countTo, countF, countTo_eq (n := n) fun i hi => h i (by omega), (h n (by omega)).1, (h n (by omega)).2]
theorem countF_range (w p : Nat → Int) (i : Nat) : 0 ≤ countF w p i ∧ countF w p i < 31 := by
  cases i with
  | zero => simp [countF]
  | succ i => exact opOf_range _ _ _
theorem u8_range (n : Int) : byte (IntKind.u8.wrap n) := by
  simp only [byte, IntKind.wrap, IntKind.bits, IntKind.signed]
  simp
  omega
theorem bitU_byte (w : Int) (i : Nat) : byte (bitU w i) := u8_range _
def bitB (t s : Int) : Bool := cop .eq (aop (.bits .and .u32) (aop (.shr .u32) t s) 1) 1
def PartyX.wf (x : PartyX) : Prop := (∀ i, byte (x.m i)) ∧ (∀ i, byte (x.s i)) ∧ byte x.sh
section
variable (p q : PartyX) (x y : Int)
def tkD (i : Nat) : Int := opOf 104 (bitU x i) (p.m i)
def tkE (i : Nat) : Int := opOf 104 (bitU y i) (q.m i)
def tkC : Int := opOf 113 (countF (bitU x) (fun i => opOf 113 (opOf 105 (p.m i) (tkE q y i)) (p.s i)) 15) p.sh
def tkS : Int := opOf 113 (countF (bitU y) (fun i => opOf 113 (opOf 105 (tkD p x i) (opOf 113 (q.m i) (tkE q y i))) (q.s i)) 15) q.sh
def tkL : Bool := bitB (p.t (tkC p q x y).toNat) (tkS p q x y)
def tkR : Bool := bitB (q.t (tkC p q x y).toNat) (tkS p q x y)
def tkM : Bool := bnot (beqv (tkL p q x y) (tkR p q x y))
def talkCells : List AV := cI .u8 (tkD p x) 15 0 ++ (cI .u8 (tkE q y) 15 0 ++ [.int .u8 (.t fun _ => tkC p q x y), .int .u8 (.t fun _ => tkS p q x y), .bool (.t fun _ => tkL p q x y), .bool (.t fun _ => tkR p q x y), .bool (.t fun _ => tkM p q x y)])
end
/-- a contract said anew -/
theorem _root_.Go.Sy.Sound.re {P : Program} {f : FuncId} {C : Con} (hS : Sound P f C) {X : Type} {A : X → List AV} {H : X → Heap} {pre : X → Prop} {post : X → (AV → Heap → Prop) → Prop}
    (hC : ∀ x K, pre x → post x K → C (A x) (H x) K) : Sound P f (Go.Sy.con A H pre post) :=
  fun s h args vals K hh hv ⟨x, h1, h2, h3, h4⟩ => hS s (H x) (A x) vals K (wh_ok hh h3) (h2 s vals hv) (hC x K h1 h4)
theorem opOf_byte (g : Nat) (x y : Int) : byte (opOf g x y) := by have := opOf_range g x y; unfold byte; omega
def cEachF : Con := con (fun x : Nat × (Nat → Int) × (Nat → Int) => [.func (.func x.1) [] [], .arr [.int .u8] fun _ => arrOf 15 x.2.1, .arr [.int .u8] fun _ => arrOf 15 x.2.2]) (fun _ => [])
  (fun x => memN [104, 105, 113] x.1 = true ∧ (∀ i, byte (x.2.1 i)) ∧ ∀ i, byte (x.2.2 i)) (fun x K => K (.arr [.int .u8] fun _ => arrOf 15 fun i => opOf x.1 (x.2.1 i) (x.2.2 i)) [])
theorem s103' : Sound Try.prog 103 cEachF := s103.re fun x K h1 h2 => by
  obtain ⟨g, f, h⟩ := x
  obtain ⟨hg, hf, hh⟩ := h1
  have e : (fun i => opOf g (f i) (h i)) = fun i => opOf g (f i) (h i) := rfl
  have e2 : arrOf 15 (eachOf g (arrOf 15 f) (arrOf 15 h)) = arrOf 15 fun i => opOf g (f i) (h i) := arrOf_congr fun i hi => by unfold eachOf; rw [at1_arrOf hi, at1_arrOf hi]
  have hb : bytes15 (arrOf 15 f) (arrOf 15 h) := fun i hi => by rw [at1_arrOf hi, at1_arrOf hi]; exact ⟨hf i, hh i⟩
  show match memN [104, 105, 113] g with | true => _ | false => False
  have hg : memN [104, 105, 113] g = true := hg
  rw [hg]
  refine Chk.mk (arrOf_length _ _) (Chk.mk (arrOf_length _ _) (Chk.mk hb ?_))
  rw [e2]
  exact h2
def cCountF : Con := con (fun x : (Nat → Int) × (Nat → Int) => [.arr [.int .u8] fun _ => arrOf 15 x.1, .arr [.int .u8] fun _ => arrOf 15 x.2]) (fun _ => [])
  (fun x => (∀ i, byte (x.1 i)) ∧ ∀ i, byte (x.2 i)) (fun x K => K (.int .i64 (.t fun _ => countF x.1 x.2 15)) [])
theorem s112' : Sound Try.prog 112 cCountF := s112.re fun x K h1 h2 => by
  obtain ⟨f, h⟩ := x
  obtain ⟨hf, hh⟩ := h1
  have e2 : countTo (arrOf 15 f) (arrOf 15 h) 15 = countF f h 15 := countTo_eq fun i hi => ⟨at1_arrOf hi, at1_arrOf hi⟩
  have hb : bytes15 (arrOf 15 f) (arrOf 15 h) := fun i hi => by rw [at1_arrOf hi, at1_arrOf hi]; exact ⟨hf i, hh i⟩
  refine Chk.mk (arrOf_length _ _) (Chk.mk (arrOf_length _ _) (Chk.mk hb ?_))
  rw [e2]
  exact h2
theorem e9 : EnvOk Try.prog (env [(103, cEachF), (111, cMasks), (112, cCountF), (113, cRes 113)]) :=
  envOk_cons (envOk_cons (envOk_cons (envOk_cons envOk_nil s113 k113.callable) s112' k112.callable) s111 k111.callable) s103' k103.callable
theorem kEq_refl (k : IntKind) : kEq k k = true := by cases k <;> rfl
theorem fits_cI (k : IntKind) (f : Nat → Int) : ∀ (n j : Nat), fits [.int k] n (cI k f n j) = true
  | 0, _ => rfl
  | n + 1, j => by
    have h := fits_cI k f n (j + 1)
    have e : Go.Sy.part (.int k (.t fun _ => f j) :: cI k f n (j + 1)) 0 1 = some [.int k (.t fun _ => f j)] := by simp [Go.Sy.part, dropX, takeX]
    simp only [fits, cI, len, e, kdsOf, kdOf, sigEq, kdEq, kEq_refl, dropX]
    exact h
theorem rows_cI (k : IntKind) (f : Nat → Int) : ∀ (n j : Nat), rowsOf 1 n (cI k f n j) = (List.range' j n).map fun i => [D.i (f i)]
  | 0, _ => rfl
  | n + 1, j => by
    have h := rows_cI k f n (j + 1)
    simp only [cI, rowsOf, List.range'_succ, List.map_cons, List.take_succ_cons, List.take_zero, List.drop_succ_cons, List.drop_zero, h]
    rfl
theorem ent_cI (k : IntKind) (n : Nat) (f : Nat → Int) : ∀ (s : Sit) (v : Value), VRel s (.agg (cI k f n 0)) v → VRel s (.arr [.int k] fun _ => arrOf n f) v := by
  intro s v h
  have ha : asRows [.int k] n (.agg (cI k f n 0)) (fun l => l = fun _ => rowsOf 1 n (cI k f n 0)) := by
    unfold asRows
    simp only [fits_cI]
    rfl
  obtain ⟨l, rfl, _, h3⟩ := asRows_arr (by simp) ha
  have h4 := h3 s v h
  rw [rows_cI, ← List.range_eq_range'] at h4
  exact h4
def cPlay0 : Con := con (fun x : PartyX × PartyX × Int × Int => [.agg x.1.cells, .agg x.2.1.cells, .int .u16 (.t fun _ => x.2.2.1), .int .u16 (.t fun _ => x.2.2.2)]) (fun _ => [])
  (fun x => x.1.wf ∧ x.2.1.wf) (fun x K => K (.agg (talkCells x.1 x.2.1 x.2.2.1 x.2.2.2)) [])
attribute [local irreducible] countF opOf
theorem s75 : Sound Try.prog 75 cPlay0 := by
  refine k75.conS tabOk e9 mixed fun x K hw h2 => ?_
  obtain ⟨⟨A, U, sh1, t1⟩, ⟨B, V, sh2, t2⟩, x, y⟩ := x
  obtain ⟨⟨hA, hU, hs1⟩, ⟨hB, hV, hs2⟩⟩ := hw
  dsimp only at hA hB hU hV hs1 hs2 h2 ⊢
  have hD : ∀ i, byte (opOf 104 (bitU x i) (A i)) := fun i => opOf_byte _ _ _
  have hE : ∀ i, byte (opOf 104 (bitU y i) (B i)) := fun i => opOf_byte _ _ _
  apply SCode.seq
  · refine SCode.of_E tabOk e9 mixed (by kernel_rfl) ?_
    cbv
    all_goals exact At.mk (.inl rfl)
  apply SCode.seq
  · refine SCode.of_E tabOk e9 mixed (by kernel_rfl) ?_
    cbv
    all_goals exact At.mk (.inl rfl)
  apply SCode.seq
  · refine SCode.of_E tabOk e9 mixed (by kernel_rfl) ?_
    cbv
    repeat'
      first
      | refine And.intro ?_ ?_
      | (refine Chk.mk (arrOf_length _ _) ?_; cbv)
      | (refine Chk.mk (rowsOf_length _ _ _) ?_; cbv)
      | fail
    all_goals exact At.mk (.inl rfl)
  apply SCode.seq
  · refine SCode.of_E tabOk e9 mixed (by kernel_rfl) ?_
    cbv
    repeat'
      first
      | refine And.intro ?_ ?_
      | (refine ⟨(104, bitU x, A), ⟨rfl, bitU_byte x, hA⟩, Ent.cons (ent_refl _) (Ent.cons (ent_refl _) (Ent.cons (ent_cI _ 15 A) Ent.nil)), trivial, ?_⟩; cbv)
      | (refine ⟨(104, bitU y, B), ⟨rfl, bitU_byte y, hB⟩, Ent.cons (ent_refl _) (Ent.cons (ent_refl _) (Ent.cons (ent_cI _ 15 B) Ent.nil)), trivial, ?_⟩; cbv)
      | (refine Chk.mk (arrOf_length _ _) ?_; cbv)
      | (refine Chk.mk (rowsOf_length _ _ _) ?_; cbv)
      | fail
    all_goals exact At.mk (.inl rfl)
  apply SCode.seq
  · refine SCode.of_E tabOk e9 mixed (by kernel_rfl) ?_
    cbv
    repeat'
      first
      | refine And.intro ?_ ?_
      | (refine ⟨(105, A, fun i => opOf 104 (bitU y i) (B i)), ⟨rfl, hA, hE⟩, Ent.cons (ent_refl _) (Ent.cons (ent_cI _ 15 A) (Ent.cons (ent_cI _ 15 fun i => opOf 104 (bitU y i) (B i)) Ent.nil)), trivial, ?_⟩; cbv)
      | (refine ⟨(113, fun i => opOf 105 (A i) (opOf 104 (bitU y i) (B i)), U), ⟨rfl, by intro i; dsimp only; exact opOf_byte _ _ _, hU⟩, Ent.cons (ent_refl _) (Ent.cons (ent_refl _) (Ent.cons (ent_cI _ 15 U) Ent.nil)), trivial, ?_⟩; cbv)
      | (refine ⟨(bitU x, fun i => opOf 113 (opOf 105 (A i) (opOf 104 (bitU y i) (B i))) (U i)), ⟨bitU_byte x, by intro i; dsimp only; exact opOf_byte _ _ _⟩, Ent.cons (ent_refl _) (Ent.cons (ent_refl _) Ent.nil), trivial, ?_⟩; cbv)
      | (refine Chk.mk (arrOf_length _ _) ?_; cbv)
      | (refine Chk.mk (rowsOf_length _ _ _) ?_; cbv)
      | fail
    all_goals exact At.mk (.inl rfl)
  apply SCode.seq
  · refine SCode.of_E tabOk e9 mixed (by kernel_rfl) ?_
    cbv
    repeat'
      first
      | refine And.intro ?_ ?_
      | (refine ⟨(113, B, fun i => opOf 104 (bitU y i) (B i)), ⟨rfl, hB, hE⟩, Ent.cons (ent_refl _) (Ent.cons (ent_cI _ 15 B) (Ent.cons (ent_cI _ 15 fun i => opOf 104 (bitU y i) (B i)) Ent.nil)), trivial, ?_⟩; cbv)
      | (refine ⟨(105, fun i => opOf 104 (bitU x i) (A i), fun i => opOf 113 (B i) (opOf 104 (bitU y i) (B i))), ⟨rfl, hD, by intro i; dsimp only; exact opOf_byte _ _ _⟩, Ent.cons (ent_refl _) (Ent.cons (ent_cI _ 15 fun i => opOf 104 (bitU x i) (A i)) (Ent.cons (ent_refl _) Ent.nil)), trivial, ?_⟩; cbv)
      | (refine ⟨(113, fun i => opOf 105 (opOf 104 (bitU x i) (A i)) (opOf 113 (B i) (opOf 104 (bitU y i) (B i))), V), ⟨rfl, by intro i; dsimp only; exact opOf_byte _ _ _, hV⟩, Ent.cons (ent_refl _) (Ent.cons (ent_refl _) (Ent.cons (ent_cI _ 15 V) Ent.nil)), trivial, ?_⟩; cbv)
      | (refine ⟨(bitU y, fun i => opOf 113 (opOf 105 (opOf 104 (bitU x i) (A i)) (opOf 113 (B i) (opOf 104 (bitU y i) (B i)))) (V i)), ⟨bitU_byte y, by intro i; dsimp only; exact opOf_byte _ _ _⟩, Ent.cons (ent_refl _) (Ent.cons (ent_refl _) Ent.nil), trivial, ?_⟩; cbv)
      | (refine Chk.mk (arrOf_length _ _) ?_; cbv)
      | (refine Chk.mk (rowsOf_length _ _ _) ?_; cbv)
      | fail
    all_goals exact At.mk (.inl rfl)
  have wsh1 : IntKind.i64.wrap sh1 = sh1 := wrap64 (by unfold byte at hs1; omega)
  have wsh2 : IntKind.i64.wrap sh2 = sh2 := wrap64 (by unfold byte at hs2; omega)
  have wc : ∀ (f h : Nat → Int) (sh : Int), IntKind.u8.wrap (opOf 113 (countF f h 15) (IntKind.i64.wrap sh)) = opOf 113 (countF f h 15) (IntKind.i64.wrap sh) := fun f h sh => wrap8 (by have := opOf_range 113 (countF f h 15) (IntKind.i64.wrap sh); omega)
  have q1 : ∀ (f h : Nat → Int), -1000 ≤ countF f h 15 ∧ countF f h 15 ≤ 1000 ∧ -1000 ≤ IntKind.i64.wrap sh1 ∧ IntKind.i64.wrap sh1 ≤ 1000 := fun f h => by
    have := countF_range f h 15
    unfold byte at hs1
    omega
  have q2 : ∀ (f h : Nat → Int), -1000 ≤ countF f h 15 ∧ countF f h 15 ≤ 1000 ∧ -1000 ≤ IntKind.i64.wrap sh2 ∧ IntKind.i64.wrap sh2 ≤ 1000 := fun f h => by
    have := countF_range f h 15
    unfold byte at hs2
    omega
  apply SCode.seq
  · refine SCode.of_E tabOk e9 mixed (by kernel_rfl) ?_
    cbv
    repeat'
      first
      | refine And.intro ?_ ?_
      | (refine Chk.mk (q1 (bitU x) _) ?_; cbv)
      | (refine Chk.mk (q2 (bitU y) _) ?_; cbv)
      | (refine Chk.mk (arrOf_length _ _) ?_; cbv)
      | (refine Chk.mk (rowsOf_length _ _ _) ?_; cbv)
      | fail
    all_goals exact At.mk (.inl rfl)
  have q3 : ∀ (f h : Nat → Int) (sh : Int), 0 ≤ IntKind.u8.wrap (opOf 113 (countF f h 15) (IntKind.i64.wrap sh)) ∧ IntKind.u8.wrap (opOf 113 (countF f h 15) (IntKind.i64.wrap sh)) < ((NX.l 31).v : Int) := fun f h sh => by
    have := opOf_range 113 (countF f h 15) (IntKind.i64.wrap sh)
    rw [wc]
    simp only [NX.v]
    omega
  have q4 : ∀ (f h : Nat → Int) (sh : Int), 31 ≤ nadd 31 (IntKind.u8.wrap (opOf 113 (countF f h 15) (IntKind.i64.wrap sh))).toNat ∧ nadd 31 (IntKind.u8.wrap (opOf 113 (countF f h 15) (IntKind.i64.wrap sh))).toNat < 31 + 31 := fun f h sh => by
    have := q3 f h sh
    simp only [NX.v] at this
    simp only [nadd]
    omega
  apply SCode.seq
  · refine SCode.of_E tabOk e9 mixed (by kernel_rfl) ?_
    cbv
    refine Chk.mk (q3 (bitU x) _ sh1) ?_
    cbv
    refine ⟨31, 31, ?_⟩
    cbv
    refine Chk.mk (q4 (bitU x) _ sh1) ?_
    cbv
    refine Chk.mk (q3 (bitU y) _ sh2).1 ?_
    cbv
    refine Chk.mk (q3 (bitU x) _ sh1) ?_
    cbv
    refine ⟨31, 31, ?_⟩
    cbv
    refine Chk.mk (q4 (bitU x) _ sh1) ?_
    cbv
    refine Chk.mk (q3 (bitU y) _ sh2).1 ?_
    cbv
    repeat'
      first
      | refine And.intro ?_ ?_
      | (refine Chk.mk (arrOf_length _ _) ?_; cbv)
      | (refine Chk.mk (rowsOf_length _ _ _) ?_; cbv)
      | fail
    all_goals exact At.mk (.inl rfl)
  have eC : IntKind.u8.wrap (opOf 113 (countF (bitU x) (fun i => opOf 113 (opOf 105 (A i) (opOf 104 (bitU y i) (B i))) (U i)) 15) (IntKind.i64.wrap sh1)) = tkC ⟨A, U, sh1, t1⟩ ⟨B, V, sh2, t2⟩ x y := by
    rw [wc, wsh1]; rfl
  have eS : IntKind.u8.wrap (opOf 113 (countF (bitU y) (fun i => opOf 113 (opOf 105 (opOf 104 (bitU x i) (A i)) (opOf 113 (B i) (opOf 104 (bitU y i) (B i)))) (V i)) 15) (IntKind.i64.wrap sh2)) = tkS ⟨A, U, sh1, t1⟩ ⟨B, V, sh2, t2⟩ x y := by
    rw [wc, wsh2]; rfl
  have eT : ∀ t : Nat → Int, at1 (rowsOf 1 31 (cI .u32 t 31 0)) (nsub (nadd 31 (IntKind.u8.wrap (opOf 113 (countF (bitU x) (fun i => opOf 113 (opOf 105 (A i) (opOf 104 (bitU y i) (B i))) (U i)) 15) (IntKind.i64.wrap sh1))).toNat) 31) = t (tkC ⟨A, U, sh1, t1⟩ ⟨B, V, sh2, t2⟩ x y).toNat := fun t => by
    have h := (q3 (bitU x) (fun i => opOf 113 (opOf 105 (A i) (opOf 104 (bitU y i) (B i))) (U i)) sh1)
    rw [eC] at h ⊢
    simp only [NX.v] at h
    rw [show nsub (nadd 31 (tkC ⟨A, U, sh1, t1⟩ ⟨B, V, sh2, t2⟩ x y).toNat) 31 = (tkC ⟨A, U, sh1, t1⟩ ⟨B, V, sh2, t2⟩ x y).toNat from by simp only [nsub, nadd]; omega]
    exact at1_cI (by omega)
  have eB : ∀ t : Nat → Int, bitB (at1 (rowsOf 1 31 (cI .u32 t 31 0)) (nsub (nadd 31 (IntKind.u8.wrap (opOf 113 (countF (bitU x) (fun i => opOf 113 (opOf 105 (A i) (opOf 104 (bitU y i) (B i))) (U i)) 15) (IntKind.i64.wrap sh1))).toNat) 31))
      (IntKind.u8.wrap (opOf 113 (countF (bitU y) (fun i => opOf 113 (opOf 105 (opOf 104 (bitU x i) (A i)) (opOf 113 (B i) (opOf 104 (bitU y i) (B i)))) (V i)) 15) (IntKind.i64.wrap sh2))) = bitB (t (tkC ⟨A, U, sh1, t1⟩ ⟨B, V, sh2, t2⟩ x y).toNat) (tkS ⟨A, U, sh1, t1⟩ ⟨B, V, sh2, t2⟩ x y) := fun t => by rw [eT, eS]
  refine SCode.of_E tabOk e9 mixed (by kernel_rfl) ?_
  cbv
  refine .mk _ _ h2 ?_ trivial
  cbv
  repeat' first | apply And.intro | exact trivial | exact SameI.mk (by with_reducible rfl) | exact SameN.mk (by with_reducible rfl) | exact SameL.mk (by with_reducible rfl) | exact SameB.mk (by with_reducible rfl) | exact LeN.mk (by with_reducible exact Nat.le_refl _) | apply SameI.mk | apply SameN.mk | apply SameL.mk | apply SameB.mk | apply LeN.mk
  rotate_right 5
  · exact eC
  · exact eS
  · exact eB t1
  · exact eB t2
  · exact (congrArg bnot ((congrArg (fun z => beqv z _) (eB t1)).trans (congrArg (beqv _) (eB t2))) :)
  all_goals rfl
end Go.Proofs.Ytlgmbpnlakjefaa
