import Derived.Test.YtoedpnniaikfbaaF2


set_option linter.unusedVariables false
set_option linter.unusedSimpArgs false
set_option maxRecDepth 8000
namespace Go.Proofs.Ytoedpnniaikfbaa
open Go.Eng
/-! ## What is laid, and read back -/
theorem rdSmall_put {n : Int} (h0 : 0 ≤ n) (h1 : n ≤ 1099511627776) (r : List Int) : rdSmall (putSmall n ++ r) 0 = (n, r, 0) := by
  have hg := getSmall_put (n := n) (by omega) r
  rw [rdSmall, if_neg (by simp), hg]
  dsimp only
  rw [if_neg (by simp), if_neg (by omega), Int.toNat_natCast, List.drop_left']
  rfl
theorem rdText_put {k : List UInt8} {m : Int} (h0 : (k.length : Int) ≤ m) (r : List Int) : rdText (putText k ++ r) 0 m = (k, r, 0) := by
  have hg := getText_put k r
  rw [rdText, if_neg (by simp), hg]
  dsimp only
  rw [if_neg (by simp), if_neg (by split <;> omega), Int.toNat_natCast, List.drop_left']
  rfl
def putV (v : Ver) : List Int := putSmall v.1 ++ (putSmall v.2.1 ++ ((if v.2.2.1 = true then 1 else 0) :: putText v.2.2.2))
def putS (s : Stk) : List Int := putText s.1 ++ (putSmall s.2.length ++ s.2.flatMap putV)
structure VerOk (v : Ver) : Prop where
  val : v.2.2.2.length ≤ 24
  gone : v.2.2.1 = true → v.2.2.2 = []
  txn : 0 ≤ v.1 ∧ v.1 ≤ 1099511627776
  ts : 0 ≤ v.2.1 ∧ v.2.1 ≤ 1099511627776
theorem verC_ok {v : Ver} : verC v = 0 ↔ VerOk v := by
  unfold verC inB
  constructor
  · intro h
    split at h
    · omega
    split at h
    · omega
    split at h
    · rename_i h1 h2 h3
      refine ⟨by omega, fun hg => ?_, of_decide_eq_true h3.1, of_decide_eq_true h3.2⟩
      by_cases hv : v.2.2.2 = []
      · exact hv
      · exact absurd ⟨hg, hv⟩ h2
    · omega
  · intro h
    rw [if_neg (by have := h.val; omega), if_neg (fun hc => hc.2 (h.gone hc.1)), if_pos ⟨decide_eq_true h.txn, decide_eq_true h.ts⟩]
structure StkOk (s : Stk) : Prop where
  key : s.1.length ≤ 16
  len : s.2.length ≤ 8
  all : ∀ v ∈ s.2, VerOk v
  ord : ordered s.2 = true
theorem firstBad_iff (xs : List Ver) : firstBad xs = 0 ↔ ∀ v ∈ xs, VerOk v := by
  induction xs with
  | nil => simp [firstBad]
  | cons x r ih =>
    rw [firstBad]
    split
    · rename_i h
      rw [ih]
      simp [verC_ok.1 h]
    · rename_i h
      constructor
      · intro hc; exact absurd hc h
      · intro hc; exact absurd (verC_ok.2 (hc x (by simp))) h
theorem check_ok {s : Stk} : check s = 0 ↔ StkOk s := by
  unfold check
  constructor
  · intro h
    split at h
    · omega
    split at h
    · omega
    split at h
    · rename_i h1 h2 h3
      split at h
      · rename_i h4; exact ⟨by omega, by omega, (firstBad_iff _).1 h3, h4⟩
      · omega
    · rename_i h3; exact absurd h h3
  · intro h
    rw [if_neg (by have := h.key; omega), if_neg (by have := h.len; omega), if_pos ((firstBad_iff _).2 h.all), if_pos h.ord]
/-- The reference's reading of versions. -/
def takeL : Nat → Int → Int → List Int → Int → List Ver → List Int × Int × List Ver
  | 0, _, _, b, e, acc => (b, e, acc)
  | f + 1, n, i, b, e, acc =>
    if (i < n ∧ i ≤ 8) ∧ e = 0 then
      let t := rdSmall b e
      let u := rdSmall t.2.1 t.2.2
      let g : Bool × List Int := if u.2.2 = 0 ∧ 0 < u.2.1.length then (decide (u.2.1.getD 0 0 = 1), u.2.1.drop 1) else (false, u.2.1)
      let w := rdText g.2 u.2.2 24
      takeL f n (i + 1) w.2.1 w.2.2 (acc ++ [(t.1, u.1, g.1, w.1)])
    else (b, e, acc)
def takeF (b : List Int) (e : Int) : (List Int × Int) × Stk :=
  let t := rdText b e 16
  let n := rdSmall t.2.1 t.2.2
  let l := takeL 10 n.1 0 n.2.1 n.2.2 []
  ((l.1, l.2.1), (t.1, l.2.2))
theorem takeL_stop {n : Int} {i : Int} (f : Nat) (b : List Int) (e : Int) (acc : List Ver) (h : ¬ ((i < n ∧ i ≤ 8) ∧ e = 0)) : takeL f n i b e acc = (b, e, acc) := by
  cases f with
  | zero => rfl
  | succ f => rw [takeL, if_neg h]
theorem takeL_put (r : List Int) : ∀ (vs : List Ver) (f : Nat) (n i : Int) (acc : List Ver), (∀ v ∈ vs, VerOk v) → n = i + vs.length → n ≤ 8 → vs.length ≤ f → takeL f n i (vs.flatMap putV ++ r) 0 acc = (r, 0, acc ++ vs)
  | [], f, n, i, acc, _, hn, _, _ => by
    rw [takeL_stop _ _ _ _ (by simp at hn; omega)]; simp
  | v :: vs, 0, _, _, _, _, _, _, h => by simp at h
  | v :: vs, f + 1, n, i, acc, hv, hn, h8, hf => by
    have ok := hv v (by simp)
    simp only [List.length_cons] at hn hf
    rw [takeL, if_pos (by omega)]
    have hb : List.flatMap putV (v :: vs) ++ r = putSmall v.1 ++ (putSmall v.2.1 ++ ((if v.2.2.1 = true then 1 else 0) :: (putText v.2.2.2 ++ (vs.flatMap putV ++ r)))) := by
      simp [putV]
    rw [hb, rdSmall_put ok.txn.1 ok.txn.2]
    dsimp only
    rw [rdSmall_put ok.ts.1 ok.ts.2]
    dsimp only
    rw [if_pos ⟨rfl, by simp⟩]
    dsimp only
    rw [List.drop_one, List.tail_cons, rdText_put (by have := ok.val; omega)]
    dsimp only
    rw [takeL_put r vs f n (i + 1) _ (fun x hx => hv x (by simp [hx])) (by omega) h8 (by omega)]
    have hg : decide (((if v.2.2.1 = true then (1 : Int) else 0) :: (putText v.2.2.2 ++ (vs.flatMap putV ++ r))).getD 0 0 = 1) = v.2.2.1 := by
      cases v.2.2.1 <;> simp
    rw [hg, List.append_assoc]; rfl
theorem takeF_put {s : Stk} (h : check s = 0) (r : List Int) : takeF (putS s ++ r) 0 = ((r, 0), s) := by
  have ok := check_ok.1 h
  have hl := ok.len
  unfold takeF putS
  rw [List.append_assoc, rdText_put (by have := ok.key; omega)]
  dsimp only
  rw [List.append_assoc, rdSmall_put (by omega) (by omega)]
  dsimp only
  rw [takeL_put r s.2 10 s.2.length 0 [] ok.all (by omega) (by omega) (by omega)]
  rfl
def getS (b : List Int) : Stk × Int := if check (takeF b 0).2 = 0 ∧ putS (takeF b 0).2 = b then ((takeF b 0).2, 0) else (([], []), 4)
theorem getS_put {s : Stk} {b : List Int} (h : check s = 0) (hb : putS s = b) : getS b = (s, 0) := by
  subst hb
  have := takeF_put h []
  rw [List.append_nil] at this
  unfold getS
  rw [this, if_pos ⟨h, rfl⟩]
theorem getS_not {b : List Int} (h : ∀ s, check s = 0 → putS s ≠ b) : getS b = (([], []), 4) := by
  unfold getS
  rw [if_neg (fun hc => h _ hc.1 hc.2)]
theorem flat_len {α : Type} (f : Ver → List α) (m : Nat) : ∀ (l : List Ver), (∀ v ∈ l, (f v).length ≤ m) → (l.flatMap f).length ≤ l.length * m
  | [], _ => by simp
  | v :: r, h => by
    have h1 := h v (by simp)
    have h2 := flat_len f m r (fun x hx => h x (by simp [hx]))
    simp only [List.flatMap_cons, List.length_append, List.length_cons, Nat.add_mul, Nat.one_mul]
    omega
theorem putV_len {v : Ver} (h : VerOk v) : (putV v).length ≤ 69 := by
  have h1 := putSmall_len v.1
  have h2 := putSmall_len v.2.1
  have h3 := putText_len v.2.2.2
  have h4 := h.val
  simp only [putV, List.length_append, List.length_cons]; omega
theorem putS_len {s : Stk} (h : check s = 0) : (putS s).length ≤ 595 := by
  have ok := check_ok.1 h
  have h1 := putText_len s.1
  have h2 := putSmall_len s.2.length
  have h3 := flat_len putV 69 s.2 (fun v hv => putV_len (ok.all v hv))
  have := ok.key; have := ok.len
  have h4 : s.2.length * 69 ≤ 552 := by omega
  simp only [putS, List.length_append]; omega
theorem isB_V (v : Ver) : isB (putV v) := by
  refine isB_append (isB_small _) (isB_append (isB_small _) fun x hx => ?_)
  rcases List.mem_cons.1 hx with rfl | hx
  · split <;> omega
  · exact isB_put _ x hx
theorem isB_flat (l : List Ver) : isB (l.flatMap putV) := fun x hx => by
  obtain ⟨v, _, hv⟩ := List.mem_flatMap.1 hx
  exact isB_V v x hv
theorem isB_S (s : Stk) : isB (putS s) := isB_append (isB_put _) (isB_append (isB_small _) (isB_flat _))
end Go.Proofs.Ytoedpnniaikfbaa
