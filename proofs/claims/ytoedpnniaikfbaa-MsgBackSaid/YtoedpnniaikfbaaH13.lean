import Derived.Test.YtoedpnniaikfbaaH12



set_option linter.unusedVariables false
set_option linter.unusedSimpArgs false
set_option maxRecDepth 8000
set_option maxHeartbeats 4000000
namespace Go.Proofs.Ytoedpnniaikfbaa
open Go.Eng
/-! ## MsgParts: plain -/
theorem apply_key (s : Stk) (m : Msg) : (applyM s m).1 = s.1 := by
  unfold applyM
  split
  · split
    · unfold commit; split <;> rfl
    · split
      · rfl
      · split
        · rfl
        · unfold write; repeat' split
          all_goals rfl
  · rfl
theorem fold_about : ∀ (l : List Msg) (s : Stk), foldM s (l.filter (about s.1)) = foldM s l
  | [], s => rfl
  | m :: l, s => by
    have ih := fold_about l (applyM s m)
    rw [apply_key] at ih
    rw [List.filter_cons]
    split
    · exact ih
    · rename_i h
      have : applyM s m = s := by unfold applyM; rw [if_neg (fun hc => h hc.2)]
      rw [this] at ih
      rw [ih]
      show _ = foldM (applyM s m) l
      rw [this]
theorem fold_cut (s : Stk) (l : List Msg) (k : Nat) : foldM (foldM s (l.take k)) (l.drop k) = foldM s l := by
  rw [foldM, foldM, ← List.foldl_append, List.take_append_drop]; rfl
theorem apply_ok {s : Stk} {m : Msg} (h0 : 0 ≤ m.1) (h : check s = 0) : check (applyM s m) = 0 := by
  unfold applyM
  split
  · rename_i hc
    have ok := mcheck_ok hc.1
    split
    · exact commit_ok h ok.ts.2
    · split
      · exact abort_ok h
      · split
        · exact prune_ok h
        · have hk := ok.kind
          have hf := ok.form
          refine write_ok h ⟨ok.val, fun hg => ?_, ok.txn, by dsimp only; omega⟩
          rcases hf.2.2.2 with h1 | h1
          · exact absurd (show m.2.2.2.2.1 = true from hg) (by rw [h1]; simp)
          · exact List.eq_nil_of_length_eq_zero h1
  · exact h
theorem fold_ok : ∀ (l : List Msg) (s : Stk), check s = 0 → (∀ m ∈ l, 0 ≤ m.1) → check (foldM s l) = 0
  | [], s, h, _ => h
  | m :: l, s, h, hl => fold_ok l (applyM s m) (apply_ok (hl m List.mem_cons_self) h) (fun x hx => hl x (List.mem_cons_of_mem _ hx))
/-! ## MsgKeys: plain -/
def inK (ks : List (List UInt8)) (m : Msg) : Bool := decide (m.1 = 0 ∧ m.2.1 ∈ ks)
def cntK (l : List Msg) (ks : List (List UInt8)) : Nat := (l.filter (inK ks)).length
def cntW (l : List Msg) : Nat := (l.filter wide).length
def cntR (lo hi : List UInt8) (l : List Msg) : Nat := (l.filter (wrP lo hi)).length
theorem cntK_le (l : List Msg) (ks : List (List UInt8)) : cntK l ks ≤ l.length := List.length_filter_le _ _
theorem cntW_le (l : List Msg) : cntW l ≤ l.length := List.length_filter_le _ _
theorem cntR_le (lo hi : List UInt8) (l : List Msg) : cntR lo hi l ≤ l.length := List.length_filter_le _ _
theorem cntW_in {l : List Msg} {i : Nat} (h : i < l.length) (hw : wide (l.getD i msg0) = true) : cntW (l.take (i + 1)) = cntW (l.take i) + 1 := by
  rw [cntW, cntW, filter_at msg0 h, if_pos hw, List.length_append]; rfl
theorem cntW_out {l : List Msg} {i : Nat} (h : i < l.length) (hw : wide (l.getD i msg0) = false) : cntW (l.take (i + 1)) = cntW (l.take i) := by
  rw [cntW, cntW, filter_at msg0 h, if_neg (by rw [hw]; simp), List.append_nil]
theorem cntR_in {lo hi : List UInt8} {l : List Msg} {i : Nat} (h : i < l.length) (hw : wrP lo hi (l.getD i msg0) = true) : cntR lo hi (l.take (i + 1)) = cntR lo hi (l.take i) + 1 := by
  rw [cntR, cntR, filter_at msg0 h, if_pos hw, List.length_append]; rfl
theorem cntR_out {lo hi : List UInt8} {l : List Msg} {i : Nat} (h : i < l.length) (hw : wrP lo hi (l.getD i msg0) = false) : cntR lo hi (l.take (i + 1)) = cntR lo hi (l.take i) := by
  rw [cntR, cntR, filter_at msg0 h, if_neg (by rw [hw]; simp), List.append_nil]
theorem cntK_add (ks : List (List UInt8)) (k : List UInt8) (hk : k ∉ ks) : ∀ l : List Msg, cntK l (ks ++ [k]) + cntW l = cntK l ks + (l.filter (about k)).length
  | [] => rfl
  | m :: l => by
    have ih := cntK_add ks k hk l
    unfold cntK cntW at ih ⊢
    simp only [List.filter_cons]
    have e1 : inK (ks ++ [k]) m = decide (m.1 = 0 ∧ (m.2.1 ∈ ks ∨ m.2.1 = k)) := by simp [inK]
    have e2 : inK ks m = decide (m.1 = 0 ∧ m.2.1 ∈ ks) := rfl
    rw [e1, e2, about, wide]
    by_cases h0 : m.1 = 0
    · by_cases h1 : m.2.1 = k
      · have h2 : m.2.1 ∉ ks := by rw [h1]; exact hk
        simp [h0, h1, hk]; omega
      · by_cases h2 : m.2.1 ∈ ks
        · simp [h0, h1, h2]; omega
        · simp [h0, h1, h2]; omega
    · by_cases h1 : 1 ≤ m.1 ∧ m.1 ≤ 3
      · simp [h0, h1]; omega
      · simp [h0, h1]; omega
theorem keysF_eq (lo hi : List UInt8) (l : List Msg) : keysF lo hi l = sortU (keysL lo hi l) := sortU_fold _
theorem keysF_rise (lo hi : List UInt8) (l : List Msg) : (keysF lo hi l).Pairwise (· < ·) := by rw [keysF_eq]; exact sortU_rise _
theorem keysF_mem {lo hi : List UInt8} {l : List Msg} {x : List UInt8} : x ∈ keysF lo hi l ↔ ∃ m ∈ l, wrP lo hi m = true ∧ m.2.1 = x := by
  rw [keysF_eq, sortU_mem, keysL, List.mem_map]
  constructor
  · rintro ⟨m, h1, h2⟩; exact ⟨m, (List.mem_filter.1 h1).1, (List.mem_filter.1 h1).2, h2⟩
  · rintro ⟨m, h1, h2, h3⟩; exact ⟨m, List.mem_filter.2 ⟨h1, h2⟩, h3⟩
theorem keysF_len (lo hi : List UInt8) (l : List Msg) : (keysF lo hi l).length ≤ l.length := by
  rw [keysF_eq]
  refine Nat.le_trans (sortU_len _) ?_
  rw [keysL, List.length_map]
  exact List.length_filter_le _ _
theorem wrP_iff {lo hi : List UInt8} {m : Msg} : wrP lo hi m = true ↔ m.1 = 0 ∧ withinK lo hi m.2.1 = true := by simp [wrP]
theorem cntK_all (lo hi : List UInt8) (l : List Msg) : cntK l (keysF lo hi l) = cntR lo hi l := by
  unfold cntK cntR
  congr 1
  refine List.filter_congr fun m hm => ?_
  rw [Bool.eq_iff_iff, inK, decide_eq_true_eq, wrP_iff, keysF_mem]
  constructor
  · rintro ⟨h1, m', h2, h3, h4⟩
    exact ⟨h1, by rw [← h4]; exact (wrP_iff.1 h3).2⟩
  · rintro ⟨h1, h2⟩
    exact ⟨h1, m, hm, wrP_iff.2 ⟨h1, h2⟩, rfl⟩
theorem cntK_nil (l : List Msg) : cntK l [] = 0 := by simp [cntK, inK]
theorem keysF_in {lo hi : List UInt8} {l : List Msg} {i : Nat} (h : i < (keysF lo hi l).length) : withinK lo hi ((keysF lo hi l).getD i []) = true := by
  have hm : (keysF lo hi l).getD i [] ∈ keysF lo hi l := by
    rw [List.getD_eq_getElem?_getD, List.getElem?_eq_getElem h]; exact List.getElem_mem _
  obtain ⟨m, h1, h2, h3⟩ := keysF_mem.1 hm
  rw [← h3]; exact (wrP_iff.1 h2).2
theorem keysF_lt {lo hi : List UInt8} {l : List Msg} {i j : Nat} (h : j < (keysF lo hi l).length) (hij : i < j) : (keysF lo hi l).getD i [] < (keysF lo hi l).getD j [] := by
  have := List.pairwise_iff_getElem.1 (keysF_rise lo hi l) i j (by omega) h hij
  rw [List.getD_eq_getElem?_getD, List.getD_eq_getElem?_getD, List.getElem?_eq_getElem h, List.getElem?_eq_getElem (show i < (keysF lo hi l).length by omega)]
  exact this
theorem cntK_step {lo hi : List UInt8} {l : List Msg} {i : Nat} (h : i < (keysF lo hi l).length) :
    cntK l ((keysF lo hi l).take (i + 1)) + cntW l = cntK l ((keysF lo hi l).take i) + (l.filter (about ((keysF lo hi l).getD i []))).length := by
  rw [take_at [] h]
  refine cntK_add _ _ (fun hc => ?_) l
  obtain ⟨j, hj, he⟩ := List.mem_iff_getElem.1 hc
  rw [List.length_take] at hj
  have := keysF_lt (lo := lo) (hi := hi) (l := l) h (show j < i by omega)
  rw [List.getElem_take] at he
  rw [List.getD_eq_getElem?_getD, List.getElem?_eq_getElem (show j < (keysF lo hi l).length by omega), Option.getD_some, he] at this
  exact slt_irrefl _ this
/-! ## MsgBack: plain -/
theorem getM_short {m : Msg} {b : List Int} (h0 : 0 ≤ m.1) (h3 : m.1 ≤ 255) (h : mcheck m = 0) (hb : b <+: putM m) (hl : b.length < (putM m).length) : getM b = (msg0, 0, 4) := by
  have hB : isB b := fun x hx => isB_M h0 h3 x (hb.subset hx)
  refine getM_not hB fun m' h0' h' hp => ?_
  have e1 := getM_put h0' h' (hp.trans hb)
  have e2 := getM_put h0 h (List.prefix_refl (putM m))
  rw [e1] at e2
  have : m' = m := congrArg Prod.fst e2
  subst this
  have := hp.length_le
  omega
end Go.Proofs.Ytoedpnniaikfbaa
