import Derived.Test.YtoedpnniaikfbaaF5



set_option linter.unusedVariables false
set_option linter.unusedSimpArgs false
set_option maxRecDepth 8000
set_option maxHeartbeats 4000000
namespace Go.Proofs.Ytoedpnniaikfbaa
open Go.Eng
theorem rdSmall_suf (b : List Int) (e : Int) : (rdSmall b e).2.1 <:+ b := by
  unfold rdSmall
  repeat' split
  all_goals first | exact List.suffix_refl _ | exact List.drop_suffix _ _
theorem rdText_suf (b : List Int) (e m : Int) : (rdText b e m).2.1 <:+ b := by
  unfold rdText
  generalize (if 0 < m then m else 0) = mm
  repeat' split
  all_goals first | exact List.suffix_refl _ | exact List.drop_suffix _ _
theorem suf_len {a b : List Int} (h : a <:+ b) : a.length ≤ b.length := h.length_le
def sTake : PSpec := ⟨[.d RdT], [⟨true, [.d RdT]⟩, ⟨true, [.d StT]⟩], fun x => List.length (α := Int) x.1.1 ≤ 100000, fun x => (((takeF x.1.1 x.1.2).1, ()), ((takeF x.1.1 x.1.2).2, ()), ())⟩
theorem takeL_go {f : Nat} {n i : Int} {b : List Int} {e : Int} {acc : List Ver} (h : (i < n ∧ i ≤ 8) ∧ e = 0) {g : Bool × List Int} (hg : (if (rdSmall (rdSmall b e).2.1 (rdSmall b e).2.2).2.2 = 0 ∧ 0 < (rdSmall (rdSmall b e).2.1 (rdSmall b e).2.2).2.1.length then (decide ((rdSmall (rdSmall b e).2.1 (rdSmall b e).2.2).2.1.getD 0 0 = 1), (rdSmall (rdSmall b e).2.1 (rdSmall b e).2.2).2.1.drop 1) else (false, (rdSmall (rdSmall b e).2.1 (rdSmall b e).2.2).2.1)) = g) :
    takeL (f + 1) n i b e acc = takeL f n (i + 1) (rdText g.2 (rdSmall (rdSmall b e).2.1 (rdSmall b e).2.2).2.2 24).2.1 (rdText g.2 (rdSmall (rdSmall b e).2.1 (rdSmall b e).2.2).2.2 24).2.2 (acc ++ [((rdSmall b e).1, (rdSmall (rdSmall b e).2.1 (rdSmall b e).2.2).1, g.1, (rdText g.2 (rdSmall (rdSmall b e).2.1 (rdSmall b e).2.2).2.2 24).1)]) := by
  rw [takeL, if_pos h]
  dsimp only
  rw [hg]
theorem retT {u v : (List Int × Int) × Stk} (h : u = v) : (some ((u.1, ()), (u.2, ()), ()) : Option (((List Int × Int) × Unit) × (Stk × Unit) × Unit)) = some ((v.1, ()), (v.2, ()), ()) := by rw [h]
theorem suf_cut {R b : List Int} (h : R <:+ b) : (List.take b.length b).drop ((b.length : Int) - (R.length : Int)).toNat = R := by
  have := h.length_le
  rw [List.take_length, show ((b.length : Int) - (R.length : Int)).toNat = b.length - R.length by omega]
  exact (List.suffix_iff_eq_drop.1 h).symm
theorem flat_split {l : List Ver} {i : Nat} (h : i < l.length) (r : List Int) : (l.drop i).flatMap putV ++ r = putSmall (l.getD i ver0).1 ++ (putSmall (l.getD i ver0).2.1 ++ ((if (l.getD i ver0).2.2.1 = true then 1 else 0) :: (putText (l.getD i ver0).2.2.2 ++ ((l.drop (i + 1)).flatMap putV ++ r)))) := by
  rw [drop_at ver0 h]
  simp [putV]
/-! ## Get -/
theorem str_eq {xs ys : List Int} (hx : isB xs) (hy : isB ys) : (strOfBytes xs == strOfBytes ys) = decide (xs = ys) := by
  by_cases h : xs = ys
  · subst h; simp
  · rw [decide_eq_false h, beq_eq_false_iff_ne]
    exact fun hc => h (str_inj hx hy hc)
def sSGet : PSpec := ⟨[.d BT], [⟨true, [.d StT]⟩, ⟨false, [.d (.int .i64)]⟩], fun x => List.length (α := Int) x.1 ≤ 100000, fun x => (((getS x.1).1, ()), ((getS x.1).2, ()), ())⟩
def sSGetR : PSpec := sSGet
theorem retG {u v : Stk × Int} (h : u = v) : (some ((u.1, ()), (u.2, ()), ()) : Option ((Stk × Unit) × (Int × Unit) × Unit)) = some ((v.1, ()), (v.2, ()), ()) := by rw [h]
theorem putR11_zero {s : Stk} (h : (putR11 s).2 = 0) : check s = 0 ∧ (putR11 s).1 = putS s := by
  unfold putR11 at h ⊢
  split at h
  · rename_i hc; rw [if_pos hc]; exact ⟨hc, rfl⟩
  · rename_i hc; exact absurd h hc
theorem putR11_not {s : Stk} (h : ¬ (putR11 s).2 = 0) : ¬ check s = 0 := fun hc => h (by unfold putR11; rw [if_pos hc])
end Go.Proofs.Ytoedpnniaikfbaa
