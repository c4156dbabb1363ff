/- Checks that the kernel reckons: the type table, a function's body. -/
import Derived.Test.YtlgmbpnlakjefaaSyW
namespace Go.Sy
set_option linter.unusedSimpArgs false
set_option linter.unusedVariables false
set_option linter.unusedSectionVars false

def zChk : AV → Value → Bool
  | .int k (.l n), .int k' m => kEq k k' && n == m
  | .bool (.l b), .bool c => b == c
  | .nilp, .pointer none => true
  | .nils, .slice none 0 0 => true
  | .nilf, .nilFunc => true
  | _, _ => false
def zsChk : List AV → List Value → Bool
  | [], [] => true
  | a :: l, v :: m => zChk a v && zsChk l m
  | _, _ => false
theorem zChk_rel {a : AV} {v : Value} (h : zChk a v = true) : ZRel a v := by
  unfold zChk at h
  split at h
  · simp only [Bool.and_eq_true, beq_iff_eq] at h
    obtain ⟨h1, rfl⟩ := h
    obtain rfl := kEq_eq h1
    exact ⟨rfl, fun s => by simp [VRel, IX.v]⟩
  · simp only [beq_iff_eq] at h
    subst h
    exact ⟨rfl, fun s => by simp [VRel, BX.v]⟩
  · exact ⟨rfl, fun s => by simp [VRel]⟩
  · exact ⟨rfl, fun s => by simp [VRel]⟩
  · exact ⟨rfl, fun s => by simp [VRel]⟩
  · cases h
theorem zsChk_rel : ∀ {l : List AV} {m : List Value}, zsChk l m = true → ZRels l m
  | [], [], _ => by simp [ZRels]
  | a :: l, v :: m, h => by
    simp only [zsChk, Bool.and_eq_true] at h
    simp only [ZRels]
    exact ⟨v, m, rfl, zChk_rel h.1, zsChk_rel h.2⟩
  | [], _ :: _, h => by cases h
  | _ :: _, [], h => by cases h
def fsChk (P : Program) : List (Nat × Nat) → List Field → Bool
  | [], [] => true
  | p :: l, f :: m => p.1 == f.offset && p.2 == f.type && (P.info? f.type).isSome && fsChk P l m
  | _, _ => false
theorem fsChk_spec {P : Program} : ∀ {l : List (Nat × Nat)} {m : List Field}, fsChk P l m = true → m.map (fun f => (f.offset, f.type)) = l ∧ ∀ f ∈ m, (P.info? f.type).isSome = true
  | [], [], _ => by simp
  | p :: l, f :: m, h => by
    simp only [fsChk, Bool.and_eq_true, beq_iff_eq] at h
    obtain ⟨⟨⟨h1, h2⟩, h3⟩, h4⟩ := h
    obtain ⟨h5, h6⟩ := fsChk_spec h4
    refine ⟨by simp [h5, ← h1, ← h2], fun g hg => ?_⟩
    rcases List.mem_cons.1 hg with rfl | hg
    · exact h3
    · exact h6 g hg
  | [], _ :: _, h => by cases h
  | _ :: _, [], h => by cases h
def kChk (P : Program) : TK → TypeDesc → Bool
  | .int k, .int k' => kEq k k'
  | .bool, .bool => true
  | .slice e, .slice e' => e == e'
  | .array n e, .array n' e' => n == n' && e == e'
  | .struct fs, .struct fields => fsChk P fs fields.toList
  | .ptr e, .pointer e' => e == e'
  | .func, .func .. => true
  | _, _ => false
theorem kChk_ok {P : Program} {k : TK} {d : TypeDesc} (h : kChk P k d = true) : KOk P k d := by
  unfold kChk at h
  split at h
  · obtain rfl := kEq_eq h; rfl
  · rfl
  · simp only [beq_iff_eq] at h; subst h; rfl
  · simp only [Bool.and_eq_true, beq_iff_eq] at h; obtain ⟨rfl, rfl⟩ := h; rfl
  · obtain ⟨h1, h2⟩ := fsChk_spec h; exact ⟨_, rfl, h1, h2⟩
  · simp only [beq_iff_eq] at h; subst h; rfl
  · exact ⟨_, _, _, rfl⟩
  · cases h
def isAggV : Value → Bool | .agg _ => true | _ => false
def tdChk (P : Program) (t : Nat) (d : TD) : Bool :=
  match P.info? t with
  | some i => i.size == d.size && i.bytes == d.bytes && (match i.zero with | some z => z.cells.size == d.size && zsChk d.zero z.cells.toList && isAggV z == d.isAgg | none => false) && (match P.underlying t with | some desc => kChk P d.k desc | none => false)
  | none => false
theorem tdChk_ok {P : Program} {t : Nat} {d : TD} (h : tdChk P t d = true) : TOk P t d := by
  unfold tdChk at h
  split at h
  · rename_i i hi
    simp only [Bool.and_eq_true, beq_iff_eq] at h
    obtain ⟨⟨⟨h1, h2⟩, h3⟩, h4⟩ := h
    split at h3
    · rename_i z hz
      simp only [Bool.and_eq_true, beq_iff_eq] at h3
      obtain ⟨⟨h5, h6⟩, h7⟩ := h3
      split at h4
      · rename_i desc hd
        refine ⟨⟨i, z, hi, h1, h2, hz, h5, zsChk_rel h6, fun h => ?_, fun h => ?_⟩, desc, hd, kChk_ok h4⟩
        · rw [h] at h7
          cases z <;> first | rfl | cases h7
        · rw [h] at h7
          cases z <;> first | rfl | cases h7
      · cases h4
    · cases h3
  · cases h
def tabChk (P : Program) : List (Nat × TD) → Bool
  | [] => true
  | p :: l => tdChk P p.1 p.2 && tabChk P l
theorem tabChk_ok {P : Program} : ∀ {l : List (Nat × TD)}, tabChk P l = true → TabOk P (tiL l)
  | [], _, t, d, h => by cases h
  | p :: l, hc, t, d, h => by
    simp only [tabChk, Bool.and_eq_true] at hc
    simp only [tiL] at h
    split at h
    · rename_i he
      simp at h
      subst h
      rw [← Nat.eq_of_beq_eq_true he]
      exact tdChk_ok hc.1
    · exact tabChk_ok hc.2 t d h
/-- what the kernel is asked of a function's row -/
def fnChk (P : Program) (f : FuncId) (body : Code) (nt : Nat) (rs : List ResultVar) : Prop := ∃ fn, P.funcs[f]? = some fn ∧ fn.body = some body ∧ fn.ntmps = nt ∧ fn.results.toList = rs ∧ (fn.name == "runtime.NumGoroutine") = false
theorem fnChk.callable {P : Program} {f : FuncId} {body : Code} {nt : Nat} {rs : List ResultVar} (h : fnChk P f body nt rs) : Callable P f := by
  obtain ⟨fn, h1, h2, h3, h4, h5⟩ := h
  exact ⟨fn, h1, h5, by rw [h2]; rfl⟩
theorem fnChk.sound {P : Program} {T : Tab} (hT : TabOk P T) {G : Env} (hG : EnvOk P G) (hm : P.follows .mixedOrders = true) {f : FuncId} {body : Code} {nt : Nat} {rs : List ResultVar} (h : fnChk P f body nt rs) (hok : codeOk body = true) {C : Con}
    (hC : ∀ args h K, C args h K → eFunc T G body nt rs args h K) : Sound P f C := by
  obtain ⟨fn, h1, h2, rfl, rfl, h5⟩ := h
  exact sound_of_E hT hG hm h1 h2 hok hC
theorem fnChk.soundS {P : Program} {T : Tab} (hT : TabOk P T) {G : Env} (hG : EnvOk P G) (hm : P.follows .mixedOrders = true) {f : FuncId} {body : Code} {nt : Nat} {rs : List ResultVar} (h : fnChk P f body nt rs) {C : Con}
    (hC : ∀ args h K, C args h K → SCode P (len h) body ⟨args ++ undefs (nt - len args), h⟩ (eRet T (len h) rs K)) : Sound P f C := by
  obtain ⟨fn, h1, h2, rfl, rfl, h5⟩ := h
  exact sound_of_S hT hG hm h1 h2 hC
theorem envOk_nil {P : Program} : EnvOk P (env []) := fun f C h => by cases h
theorem envOk_cons {P : Program} {l : List (Nat × Con)} (hl : EnvOk P (env l)) {f : Nat} {C : Con} (hS : Sound P f C) (hc : Callable P f) : EnvOk P (env ((f, C) :: l)) := fun g D h => by
  simp only [env] at h
  split at h
  · rename_i he
    simp at h
    subst h
    rw [← Nat.eq_of_beq_eq_true he]
    exact ⟨hS, hc⟩
  · exact hl g D h
end Go.Sy
