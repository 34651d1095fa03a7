import Derived.Test.YtoedpnniaikfbaaB7



set_option linter.unusedVariables false
set_option linter.unusedSimpArgs false
namespace Go.Proofs.Ytoedpnniaikfbaa
open Go.Eng
def isB (xs : List Int) : Prop := ∀ x ∈ xs, 0 ≤ x ∧ x ≤ 255
theorem isB_good {xs : List Int} (h : ∀ x ∈ xs, Eng.Good (.int .u8) x) : isB xs := fun x hx => byte_mem h hx
theorem isB_append {xs ys : List Int} (h : isB xs) (k : isB ys) : isB (xs ++ ys) := fun x hx => (List.mem_append.1 hx).elim (h x) (k x)
theorem isB_take {xs : List Int} (h : isB xs) (n : Nat) : isB (xs.take n) := fun x hx => h x (List.mem_of_mem_take hx)
theorem isB_drop {xs : List Int} (h : isB xs) (n : Nat) : isB (xs.drop n) := fun x hx => h x (List.mem_of_mem_drop hx)
theorem isB_str (s : List UInt8) : isB (bytesOfStr s) := fun x hx => by
  obtain ⟨c, _, rfl⟩ := List.mem_map.1 hx
  have := c.toNat_lt
  omega
theorem isB_put (s : List UInt8) : isB (putText s) := fun x hx => by
  unfold putText putB at hx
  rcases List.mem_append.1 hx with h | h
  · obtain ⟨c, hc, h⟩ := List.mem_flatMap.1 h
    have := isB_str s c hc
    unfold escI at h
    split at h <;> simp at h <;> omega
  · simp at h; omega
theorem isB_lay : ∀ (k : Nat) (n : Int), isB (layB n k)
  | 0, n => fun x hx => by simp [layB] at hx
  | k + 1, n => by
    rw [layB]
    refine isB_append (isB_lay k _) fun x hx => ?_
    simp at hx; omega
theorem isB_int (n : Int) : isB (putInt n) := isB_lay 8 _
theorem isB_small (n : Int) : isB (putSmall n) := fun x hx => by
  unfold putSmall at hx
  rcases List.mem_cons.1 hx with h | h
  · have := widthN_le 8 n; omega
  · exact isB_lay _ _ x h
theorem u8_cmp {a b : Int} (ha : 0 ≤ a ∧ a ≤ 255) (hb : 0 ≤ b ∧ b ≤ 255) : (UInt8.ofNat a.toNat < UInt8.ofNat b.toNat) ↔ a < b := by
  obtain ⟨n, rfl⟩ := Int.eq_ofNat_of_zero_le ha.1
  obtain ⟨m, rfl⟩ := Int.eq_ofNat_of_zero_le hb.1
  simp only [Int.toNat_natCast]
  rw [UInt8.lt_iff_toNat_lt]
  simp only [UInt8.toNat_ofNat']
  omega
theorem cmpB_eq : ∀ (a b : List Int), isB a → isB b → Lib.compareBytes (strOfBytes a) (strOfBytes b) = cmpL a b
  | [], [], _, _ => rfl
  | [], _ :: _, _, _ => rfl
  | _ :: _, [], _, _ => rfl
  | x :: a, y :: b, ha, hb => by
    have ih := cmpB_eq a b (fun z hz => ha z (by simp [hz])) (fun z hz => hb z (by simp [hz]))
    have hx := ha x (by simp)
    have hy := hb y (by simp)
    show (if UInt8.ofNat x.toNat < UInt8.ofNat y.toNat then _ else if UInt8.ofNat y.toNat < UInt8.ofNat x.toNat then _ else Lib.compareBytes (strOfBytes a) (strOfBytes b)) = _
    rw [ih, cmpL]
    simp only [u8_cmp hx hy, u8_cmp hy hx]
theorem str_bytes (s : List UInt8) : strOfBytes (bytesOfStr s) = s := by
  unfold strOfBytes bytesOfStr
  rw [List.map_map]
  conv => rhs; rw [← List.map_id s]
  refine List.map_congr_left fun c _ => ?_
  simp
theorem bytes_inj {a b : List UInt8} (h : bytesOfStr a = bytesOfStr b) : a = b := by rw [← str_bytes a, h, str_bytes]
theorem cmpL_self : ∀ a : List Int, cmpL a a = 0
  | [] => rfl
  | x :: r => by rw [cmpL, if_neg (by omega), if_neg (by omega), cmpL_self r]
theorem cmpL_zero : ∀ {a b : List Int}, cmpL a b = 0 → a = b
  | [], [], _ => rfl
  | [], _ :: _, h => by simp [cmpL] at h
  | _ :: _, [], h => by simp [cmpL] at h
  | x :: a, y :: b, h => by
    rw [cmpL] at h
    split at h
    · omega
    · split at h
      · omega
      · rw [cmpL_zero h, show x = y by omega]
theorem cmpL_vals : ∀ (a b : List Int), cmpL a b = -1 ∨ cmpL a b = 0 ∨ cmpL a b = 1
  | [], [] => .inr (.inl rfl)
  | [], _ :: _ => .inl rfl
  | _ :: _, [] => .inr (.inr rfl)
  | x :: a, y :: b => by
    rw [cmpL]
    split
    · exact .inl rfl
    · split
      · exact .inr (.inr rfl)
      · exact cmpL_vals a b
theorem sless_cmp : ∀ (a b : List UInt8), (if sless a b = true then (-1 : Int) else if (!(sless a b || a == b)) = true then 1 else 0) = cmpL (bytesOfStr a) (bytesOfStr b)
  | [], [] => rfl
  | [], _ :: _ => rfl
  | _ :: _, [] => rfl
  | x :: a, y :: b => by
    have ih := sless_cmp a b
    have hs : sless (x :: a) (y :: b) = (decide (x < y) || (x == y && sless a b)) := rfl
    have h1 : (x < y) ↔ (x.toNat : Int) < (y.toNat : Int) := by rw [UInt8.lt_iff_toNat_lt]; omega
    have h2 : (x = y) ↔ (x.toNat : Int) = (y.toNat : Int) := by rw [← UInt8.toNat_inj]; omega
    show _ = (if (x.toNat : Int) < (y.toNat : Int) then -1 else if (y.toNat : Int) < (x.toNat : Int) then 1 else cmpL (bytesOfStr a) (bytesOfStr b))
    rw [← ih, hs]
    by_cases hl : x < y
    · rw [if_pos (h1.1 hl)]; simp [hl]
    · rw [if_neg (fun h => hl (h1.2 h))]
      by_cases he : x = y
      · rw [if_neg (show ¬ (y.toNat : Int) < (x.toNat : Int) by have := h2.1 he; omega)]
        subst he
        have h3 : decide (x < x) = false := by simp
        rw [h3]
        simp only [beq_self_eq_true, Bool.true_and, Bool.false_or]
        rw [show (x :: a == x :: b) = (a == b) by simp]
      · have : (y.toNat : Int) < (x.toNat : Int) := by have := mt h1.2 hl; have := mt h2.2 he; omega
        rw [if_pos this]
        simp [hl, he]
theorem cmpL_lt {x y : Int} {a b : List Int} (h : x < y) : cmpL (x :: a) (y :: b) = -1 := by rw [cmpL, if_pos h]
theorem cmpL_gt {x y : Int} {a b : List Int} (h : y < x) : cmpL (x :: a) (y :: b) = 1 := by rw [cmpL, if_neg (by omega), if_pos h]
theorem cmpL_pre : ∀ (p q : List Int), cmpL (p ++ q) p = 0 ∨ cmpL (p ++ q) p = 1
  | [], [] => .inl rfl
  | [], _ :: _ => .inr rfl
  | z :: zs, q => by rw [List.cons_append, cmpL, if_neg (by omega), if_neg (by omega)]; exact cmpL_pre zs q
theorem cmpL_beg {r os : List Int} (h : os.take r.length = r) : cmpL os r = 0 ∨ cmpL os r = 1 := by
  have := cmpL_pre r (os.drop r.length)
  have e : r ++ os.drop r.length = os := by
    conv => lhs; arg 1; rw [← h]
    exact List.take_append_drop _ _
  rwa [e] at this
theorem cmpL_cons (x : Int) (a b : List Int) : cmpL (x :: a) (x :: b) = cmpL a b := by rw [cmpL, if_neg (by omega), if_neg (by omega)]
theorem cmpL_app (x a b : List Int) : cmpL (x ++ a) (x ++ b) = cmpL a b := by
  induction x with
  | nil => rfl
  | cons y r ih => rw [List.cons_append, List.cons_append, cmpL_cons, ih]
theorem putB_cons (x : Int) (xs : List Int) : putB (x :: xs) = escI x ++ putB xs := by simp [putB]
theorem putB_cmp (s t : List Int) : ∀ (xs ys : List Int), isB xs → isB ys → cmpL (putB xs ++ s) (putB ys ++ t) = if xs = ys then cmpL s t else cmpL xs ys
  | [], [], _, _ => by rw [if_pos rfl]; exact cmpL_app _ _ _
  | [], y :: ys, _, hy => by
    have hb := hy y (by simp)
    rw [if_neg (by simp), putB_cons]
    unfold escI
    split
    · show cmpL (0 :: 1 :: s) (0 :: 255 :: (putB ys ++ t)) = _
      rw [cmpL_cons, cmpL_lt (by omega)]; rfl
    · show cmpL (0 :: 1 :: s) (y :: (putB ys ++ t)) = _
      rw [cmpL_lt (by omega)]; rfl
  | x :: xs, [], hx, _ => by
    have hb := hx x (by simp)
    rw [if_neg (by simp), putB_cons]
    unfold escI
    split
    · show cmpL (0 :: 255 :: (putB xs ++ s)) (0 :: 1 :: t) = _
      rw [cmpL_cons, cmpL_gt (by omega)]; rfl
    · show cmpL (x :: (putB xs ++ s)) (0 :: 1 :: t) = _
      rw [cmpL_gt (by omega)]; rfl
  | x :: xs, y :: ys, hx, hy => by
    have hb := hx x (by simp)
    have hc := hy y (by simp)
    have ih := putB_cmp s t xs ys (fun z hz => hx z (by simp [hz])) (fun z hz => hy z (by simp [hz]))
    rw [putB_cons, putB_cons, List.append_assoc, List.append_assoc]
    by_cases e : x = y
    · subst e
      rw [cmpL_app, ih, cmpL_cons]
      by_cases h : xs = ys
      · rw [if_pos h, if_pos (by rw [h])]
      · rw [if_neg h, if_neg (by simpa using h)]
    · rw [if_neg (by simp [e])]
      unfold escI
      split
      · rw [if_neg (by omega)]
        show cmpL (0 :: 255 :: (putB xs ++ s)) (y :: (putB ys ++ t)) = _
        rw [cmpL_lt (by omega), cmpL_lt (by omega)]
      · split
        · show cmpL (x :: (putB xs ++ s)) (0 :: 255 :: (putB ys ++ t)) = _
          rw [cmpL_gt (by omega), cmpL_gt (by omega)]
        · show cmpL (x :: (putB xs ++ s)) (y :: (putB ys ++ t)) = _
          by_cases hl : x < y
          · rw [cmpL_lt hl, cmpL_lt hl]
          · rw [cmpL_gt (by omega), cmpL_gt (by omega)]
/-- The texts' order is that of their bytes, whatever stands behind. -/
theorem putText_cmp (a b : List UInt8) (s t : List Int) : cmpL (putText a ++ s) (putText b ++ t) = if a = b then cmpL s t else cmpL (bytesOfStr a) (bytesOfStr b) := by
  unfold putText
  rw [putB_cmp s t _ _ (isB_str a) (isB_str b)]
  by_cases h : a = b
  · rw [if_pos h, if_pos (by rw [h])]
  · rw [if_neg h, if_neg (fun hc => h (bytes_inj hc))]
/-! Behind -/
def behF : List Int → Option (List Int)
  | [] => none
  | c :: r => match behF r with
    | some y => some (c :: y)
    | none => if c = 255 then none else some [c + 1]
theorem behN_cons (c : Int) (r : List Int) : ∀ n, behN (c :: r) (n + 1) = if behN r n = 0 then (if c = 255 then 0 else 1) else behN r n + 1
  | 0 => by simp [behN]
  | n + 1 => by
    rw [behN, behN_cons c r n]
    simp only [List.getD_cons_succ]
    rw [show behN r (n + 1) = if r.getD n 0 = 255 then behN r n else n + 1 from rfl]
    split
    · rfl
    · rw [if_neg (by omega)]
theorem behN_le (xs : List Int) : ∀ n, behN xs n ≤ n
  | 0 => Nat.le_refl _
  | n + 1 => by
    have := behN_le xs n
    rw [behN]; split <;> omega
theorem behL_F : ∀ (b : List Int), behL b = match behF b with | some x => (x, true) | none => ([], false)
  | [] => rfl
  | c :: r => by
    have ih := behL_F r
    have hc := behN_cons c r r.length
    unfold behL at ih ⊢
    rw [List.length_cons, hc]
    rw [behF]
    cases hn : behN r r.length with
    | zero =>
      rw [hn] at ih
      rw [if_pos rfl]
      have hN : behF r = none := by
        cases hf : behF r with
        | none => rfl
        | some y => rw [hf] at ih; simp at ih
      rw [hN]
      by_cases h : c = 255
      · simp only [if_pos h]
      · simp only [if_neg h]; simp
    | succ m =>
      rw [hn] at ih
      rw [if_neg (by omega)]
      cases hf : behF r with
      | none => rw [hf] at ih; simp at ih
      | some y =>
        rw [hf] at ih
        simp only [Prod.mk.injEq, and_true] at ih
        subst ih
        simp
theorem behF_none : ∀ {b : List Int}, isB b → behF b = none → ∀ other, isB other → (b.length ≤ other.length ∧ other.take b.length = b) ∨ cmpL other b < 0
  | [], _, _, other, _ => .inl (by simp)
  | c :: r, hb, hn, other, ho => by
    rw [behF] at hn
    cases hf : behF r with
    | some y => rw [hf] at hn; simp at hn
    | none =>
      rw [hf] at hn
      simp only at hn
      split at hn
      · rename_i h255
        cases other with
        | nil => right; simp [cmpL]
        | cons o os =>
          have h1 := ho o (by simp)
          rcases behF_none (fun z hz => hb z (by simp [hz])) hf os (fun z hz => ho z (by simp [hz])) with ⟨h2, h3⟩ | h2
          · by_cases he : o = c
            · subst he; left; simp [h2, h3]
            · right; rw [cmpL, if_pos (by omega)]; omega
          · by_cases he : o = c
            · subst he; right; rw [cmpL_cons]; exact h2
            · right; rw [cmpL, if_pos (by omega)]; omega
      · simp at hn
theorem behF_isB : ∀ {b x : List Int}, isB b → behF b = some x → isB x
  | [], _, _, h => by simp [behF] at h
  | c :: r, x, hb, h => by
    rw [behF] at h
    have h1 := hb c (by simp)
    cases hf : behF r with
    | some y =>
      rw [hf] at h
      simp at h; subst h
      have ih := behF_isB (fun z hz => hb z (by simp [hz])) hf
      intro z hz
      rcases List.mem_cons.1 hz with rfl | hz
      · exact h1
      · exact ih z hz
    | none =>
      rw [hf] at h
      simp only at h
      split at h
      · simp at h
      · simp at h; subst h
        intro z hz; simp at hz; omega
theorem behF_long : ∀ {b x : List Int} (more : List Int), behF b = some x → cmpL (b ++ more) x < 0
  | [], _, _, h => by simp [behF] at h
  | c :: r, x, more, h => by
    rw [behF] at h
    cases hf : behF r with
    | some y =>
      rw [hf] at h
      simp at h; subst h
      rw [List.cons_append, cmpL_cons]
      exact behF_long more hf
    | none =>
      rw [hf] at h
      simp only at h
      split at h
      · simp at h
      · simp at h; subst h
        rw [List.cons_append, cmpL, if_pos (by omega)]; omega
theorem behF_some : ∀ {b x : List Int}, isB b → behF b = some x → ∀ other, isB other → ((0 ≤ cmpL other b ∧ cmpL other x < 0) ↔ (b.length ≤ other.length ∧ other.take b.length = b))
  | [], _, _, h, _, _ => by simp [behF] at h
  | c :: r, x, hb, h, other, ho => by
    rw [behF] at h
    cases other with
    | nil => simp [cmpL]
    | cons o os =>
      have h1 := ho o (by simp)
      have hos : isB os := fun z hz => ho z (by simp [hz])
      have hbr : isB r := fun z hz => hb z (by simp [hz])
      cases hf : behF r with
      | some y =>
        rw [hf] at h
        simp at h; subst h
        have ih := behF_some hbr hf os hos
        by_cases he : o = c
        · subst he
          rw [cmpL_cons, cmpL_cons, ih]; simp
        · rw [cmpL, cmpL]
          by_cases hl : o < c
          · rw [if_pos hl]; simp [he]
          · rw [if_neg hl, if_pos (by omega), if_neg hl, if_pos (by omega)]; simp [he]
      | none =>
        rw [hf] at h
        simp only at h
        split at h
        · simp at h
        · rename_i h255
          simp at h; subst h
          rcases behF_none hbr hf os hos with ⟨h2, h3⟩ | h2
          · by_cases he : o = c
            · subst he
              have h4 : 0 ≤ cmpL os r := by have := cmpL_beg h3; omega
              rw [cmpL_cons, cmpL, if_pos (by omega)]
              simp [h2, h3, h4]
            · rw [cmpL, cmpL]
              by_cases hl : o < c
              · rw [if_pos hl]; simp [he]
              · rw [if_neg hl, if_pos (by omega), if_neg (by omega)]
                simp only [List.length_cons, List.take_succ_cons, List.cons.injEq, he, false_and, and_false, iff_false]
                split
                · omega
                · intro hc
                  cases os <;> simp [cmpL] at hc
          · by_cases he : o = c
            · subst he
              rw [cmpL_cons]
              constructor
              · intro hc; omega
              · intro hc
                exfalso
                simp at hc
                have := cmpL_beg hc.2
                omega
            · rw [cmpL, cmpL]
              by_cases hl : o < c
              · rw [if_pos hl]; simp [he]
              · rw [if_neg hl, if_pos (by omega), if_neg (by omega)]
                simp only [List.length_cons, List.take_succ_cons, List.cons.injEq, he, false_and, and_false, iff_false]
                split
                · omega
                · intro hc
                  cases os <;> simp [cmpL] at hc
end Go.Proofs.Ytoedpnniaikfbaa
