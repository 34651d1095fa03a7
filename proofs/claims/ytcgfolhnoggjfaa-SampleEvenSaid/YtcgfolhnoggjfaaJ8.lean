import Derived.Test.YtcgfolhnoggjfaaJ7
set_option linter.unusedVariables false
set_option linter.unusedSimpArgs false
set_option maxRecDepth 8000
set_option maxHeartbeats 4000000
namespace Go.Proofs.Ytcgfolhnoggjfaa
open Go.Eng
/-! ## The least text of a length above another one -/
def BS (X : List Int) : Prop := ∀ x ∈ X, 0 ≤ x ∧ x ≤ 255
theorem BS.tail {c : Int} {r : List Int} (h : BS (c :: r)) : BS r := fun x hx => h x (List.mem_cons_of_mem _ hx)
theorem BS.head {c : Int} {r : List Int} (h : BS (c :: r)) : 0 ≤ c ∧ c ≤ 255 := h c List.mem_cons_self
theorem bs_bytes (a : List UInt8) : BS (bytesOfStr a) := fun x hx => by
  obtain ⟨b, -, rfl⟩ := List.mem_map.1 hx
  have := b.toNat_lt
  omega
theorem zeros_le : ∀ (k : Nat) (Z : List Int), BS Z → Z.length = k → ¬ Z < List.replicate k 0
  | 0, Z, _, h => by rw [List.eq_nil_of_length_eq_zero h]; simp
  | k + 1, [], _, h => by simp at h
  | k + 1, d :: s, hB, h => by
    rw [List.replicate_succ, List.cons_lt_cons_iff]
    have h1 := hB.head
    have h2 := zeros_le k s hB.tail (by simpa using h)
    rintro (h3 | ⟨-, h3⟩)
    · omega
    · exact h2 h3
theorem incI_spec : ∀ (X : List Int), BS X → match incI X with
    | some Y => Y.length = X.length ∧ BS Y ∧ X < Y ∧ ∀ Z, BS Z → Z.length = X.length → X < Z → ¬ Z < Y
    | none => ∀ Z, BS Z → Z.length = X.length → ¬ X < Z
  | [], _ => by
    rw [incI]
    intro Z _ h
    rw [List.eq_nil_of_length_eq_zero h]; simp
  | c :: r, hB => by
    have ih := incI_spec r hB.tail
    have hc := hB.head
    rw [incI]
    cases e : incI r with
    | some r' =>
      rw [e] at ih
      obtain ⟨h1, h2, h3, h4⟩ := ih
      refine ⟨by simp [h1], fun x hx => ?_, by rw [List.cons_lt_cons_iff]; exact .inr ⟨rfl, h3⟩, fun Z hZ hl hlt => ?_⟩
      · rcases List.mem_cons.1 hx with rfl | hx
        · exact hc
        · exact h2 x hx
      · cases Z with
        | nil => simp at hl
        | cons d s =>
          rw [List.cons_lt_cons_iff] at hlt ⊢
          rintro (h5 | ⟨h5, h6⟩)
          · rcases hlt with h | ⟨h, -⟩ <;> omega
          · rcases hlt with h | ⟨-, h⟩
            · omega
            · exact h4 s hZ.tail (by simpa using hl) h h6
    | none =>
      rw [e] at ih
      by_cases h255 : c = 255
      · simp only [h255, if_true]
        intro Z hZ hl hlt
        cases Z with
        | nil => simp at hl
        | cons d s =>
          have hd := hZ.head
          rw [List.cons_lt_cons_iff] at hlt
          rcases hlt with h | ⟨-, h⟩
          · omega
          · exact ih s hZ.tail (by simpa using hl) h
      · simp only [h255, if_false]
        refine ⟨by simp, fun x hx => ?_, by rw [List.cons_lt_cons_iff]; exact .inl (by omega), fun Z hZ hl hlt => ?_⟩
        · rcases List.mem_cons.1 hx with rfl | hx
          · omega
          · rw [(List.mem_replicate.1 hx).2]; omega
        · cases Z with
          | nil => simp at hl
          | cons d s =>
            rw [List.cons_lt_cons_iff] at hlt ⊢
            have hs : s.length = r.length := by simpa using hl
            have hno := ih s hZ.tail hs
            rintro (h5 | ⟨h5, h6⟩)
            · rcases hlt with h | ⟨-, h⟩
              · omega
              · exact hno h
            · exact zeros_le _ s hZ.tail hs h6
theorem lt_take_iff {α : Type} [LT α] [DecidableEq α] [DecidableLT α] : ∀ (x a : List α), a < x ↔ a.take x.length < x
  | [], a => by simp
  | c :: r, [] => by simp
  | c :: r, d :: s => by
    rw [List.length_cons, List.take_succ_cons, List.cons_lt_cons_iff, List.cons_lt_cons_iff, lt_take_iff r s]
theorem pad_spec : ∀ (a : List Int) (k : Nat), 0 < k → a < a ++ List.replicate k 0 ∧ ∀ Z, BS Z → Z.length = a.length + k → a < Z → ¬ Z < a ++ List.replicate k 0
  | [], k, hk => by
    obtain ⟨j, rfl⟩ : ∃ j, k = j + 1 := ⟨k - 1, by omega⟩
    refine ⟨by simp [List.replicate_succ], fun Z hZ hl _ => zeros_le _ Z hZ (by simpa using hl)⟩
  | c :: r, k, hk => by
    obtain ⟨h1, h2⟩ := pad_spec r k hk
    refine ⟨by rw [List.cons_append, List.cons_lt_cons_iff]; exact .inr ⟨rfl, h1⟩, fun Z hZ hl hlt => ?_⟩
    cases Z with
    | nil => simp at hl; omega
    | cons d s =>
      rw [List.cons_append, List.cons_lt_cons_iff] at *
      rintro (h5 | ⟨h5, h6⟩)
      · rcases hlt with h | ⟨h, -⟩ <;> omega
      · rcases hlt with h | ⟨-, h⟩
        · omega
        · exact h2 s hZ.tail (by simp at hl; omega) h h6
theorem aftI_spec (a : List Int) (n : Nat) (hB : BS a) : match aftI a n with
    | some Y => Y.length = n ∧ BS Y ∧ a < Y ∧ ∀ Z, BS Z → Z.length = n → a < Z → ¬ Z < Y
    | none => ∀ Z, BS Z → Z.length = n → ¬ a < Z := by
  by_cases h : a.length < n
  · rw [aftI, if_pos h]
    obtain ⟨h1, h2⟩ := pad_spec a (n - a.length) (by omega)
    refine ⟨by simp; omega, fun x hx => ?_, h1, fun Z hZ hl => h2 Z hZ (by omega)⟩
    rcases List.mem_append.1 hx with hx | hx
    · exact hB x hx
    · rw [(List.mem_replicate.1 hx).2]; omega
  · rw [aftI, if_neg h]
    have hl : (a.take n).length = n := by rw [List.length_take]; omega
    have hs := incI_spec (a.take n) (fun x hx => hB x (List.mem_of_mem_take hx))
    rw [hl] at hs
    cases e : incI (a.take n) with
    | some Y =>
      rw [e] at hs
      obtain ⟨h1, h2, h3, h4⟩ := hs
      refine ⟨h1, h2, (lt_take_iff Y a).2 (by rw [h1]; exact h3), fun Z hZ hz hlt => h4 Z hZ hz ?_⟩
      have := (lt_take_iff Z a).1 hlt
      rwa [hz] at this
    | none =>
      rw [e] at hs
      intro Z hZ hz hlt
      have := (lt_take_iff Z a).1 hlt
      rw [hz] at this
      exact hs Z hZ hz this
theorem bytes_lt : ∀ (a b : List UInt8), bytesOfStr a < bytesOfStr b ↔ a < b
  | [], [] => by simp [bytesOfStr]
  | [], d :: s => by simp [bytesOfStr]
  | c :: r, [] => by simp [bytesOfStr]
  | c :: r, d :: s => by
    have ih := bytes_lt r s
    rw [show bytesOfStr (c :: r) = (c.toNat : Int) :: bytesOfStr r from rfl, show bytesOfStr (d :: s) = (d.toNat : Int) :: bytesOfStr s from rfl,
      List.cons_lt_cons_iff, List.cons_lt_cons_iff, ih, UInt8.lt_iff_toNat_lt, ← UInt8.toNat_inj]
    simp only [Int.ofNat_lt, Int.ofNat_inj]
theorem bytes_str : ∀ (Y : List Int), BS Y → bytesOfStr (strOfBytes Y) = Y
  | [], _ => rfl
  | c :: r, h => by
    have ih := bytes_str r h.tail
    have hc := h.head
    show (((UInt8.ofNat c.toNat).toNat : Nat) : Int) :: bytesOfStr (strOfBytes r) = _
    rw [ih, UInt8.toNat_ofNat']
    congr 1
    omega
theorem str_bytes : ∀ (a : List UInt8), strOfBytes (bytesOfStr a) = a
  | [] => rfl
  | c :: r => by
    have ih := str_bytes r
    show UInt8.ofNat ((c.toNat : Int)).toNat :: strOfBytes (bytesOfStr r) = _
    rw [ih]; simp
theorem aft_some {a : Str} {n : Nat} (h : (aftF a n).2 = true) : (aftF a n).1.length = n ∧ (a : List UInt8) < (aftF a n).1 ∧ ∀ y : List UInt8, y.length = n → (a : List UInt8) < y → ¬ y < (aftF a n).1 := by
  have hs := aftI_spec (bytesOfStr a) n (bs_bytes a)
  unfold aftF at *
  cases e : aftI (bytesOfStr a) n with
  | none => rw [e] at h; cases h
  | some Y =>
    rw [e] at hs
    obtain ⟨h1, h2, h3, h4⟩ := hs
    dsimp only
    have hb := bytes_str Y h2
    refine ⟨by rw [← bytes_len, hb]; exact h1, (bytes_lt _ _).1 (by rw [hb]; exact h3), fun y hy hlt => ?_⟩
    rw [← bytes_lt, hb]
    exact h4 _ (bs_bytes y) (by rw [bytes_len]; exact hy) ((bytes_lt _ _).2 hlt)
theorem aft_none {a : Str} {n : Nat} (h : (aftF a n).2 = false) (y : List UInt8) (hy : y.length = n) : ¬ (a : List UInt8) < y := by
  have hs := aftI_spec (bytesOfStr a) n (bs_bytes a)
  unfold aftF at h
  cases e : aftI (bytesOfStr a) n with
  | some Y => rw [e] at h; cases h
  | none =>
    rw [e] at hs
    rw [← bytes_lt]
    exact hs _ (bs_bytes y) (by rw [bytes_len]; exact hy)
/-! ## Between -/
def okN (a b : Str) (n : Nat) : Bool := (aftF a n).2 && !sless b (aftF a n).1
def firstN (a b : Str) : Nat → Nat → Str
  | 0, _ => b
  | f + 1, n => if okN a b n = true then (aftF a n).1 else firstN a b f (n + 1)
def fromN (a b : Str) (n : Nat) : Str := firstN a b ((b : List UInt8).length + 1 - n) n
def betweenF (a b : Str) : Str := if sless a b = true then fromN a b 1 else b
theorem fromN_yes {a b : Str} {n : Nat} (h : n ≤ (b : List UInt8).length) (ho : okN a b n = true) : fromN a b n = (aftF a n).1 := by
  rw [fromN, show (b : List UInt8).length + 1 - n = ((b : List UInt8).length - n) + 1 by omega, firstN, if_pos ho]
theorem fromN_no {a b : Str} {n : Nat} (h : n ≤ (b : List UInt8).length) (ho : okN a b n = false) : fromN a b n = fromN a b (n + 1) := by
  rw [fromN, show (b : List UInt8).length + 1 - n = ((b : List UInt8).length - n) + 1 by omega, firstN, if_neg (by rw [ho]; simp), fromN,
    show (b : List UInt8).length + 1 - (n + 1) = (b : List UInt8).length - n by omega]
theorem fromN_end {a b : Str} : fromN a b ((b : List UInt8).length + 1) = b := by rw [fromN, Nat.sub_self]; rfl
structure Btw (a b t : List UInt8) : Prop where
  lo : a < t
  hi : ¬ b < t
  len : t.length ≤ b.length
  least : ∀ x, a < x → ¬ b < x → ¬ x.length < t.length ∧ (x.length = t.length → ¬ x < t)
theorem first_spec {a b : Str} (hab : (a : List UInt8) < b) : ∀ (f n : Nat), n + f = (b : List UInt8).length + 1 → (∀ x : List UInt8, x.length < n → (a : List UInt8) < x → (b : List UInt8) < x) → Btw a b (firstN a b f n)
  | 0, n, hn, hs => absurd (hs b (by omega) hab) (slt_irrefl _)
  | f + 1, n, hn, hs => by
    rw [firstN]
    split
    · rename_i ho
      simp only [okN, Bool.and_eq_true, Bool.not_eq_true'] at ho
      obtain ⟨h1, h2, h3⟩ := aft_some ho.1
      refine ⟨h2, fun hc => ?_, by rw [h1]; omega, fun x hx hb => ⟨fun hl => hb (hs x (by omega) hx), fun hl => h3 x (by omega) hx⟩⟩
      rw [sless_iff.2 hc] at ho; simp at ho
    · rename_i ho
      refine first_spec hab f (n + 1) (by omega) fun x hl hx => ?_
      by_cases hxn : x.length < n
      · exact hs x hxn hx
      · have hxe : x.length = n := by omega
        cases e : (aftF a n).2 with
        | false => exact absurd hx (aft_none e x hxe)
        | true =>
          obtain ⟨h1, h2, h3⟩ := aft_some e
          simp only [okN, e, Bool.true_and, Bool.not_eq_true, Bool.not_eq_false'] at ho
          have hbt := sless_iff.1 ho
          have := h3 x hxe hx
          rcases sle_cases (List.not_lt.1 this) with h4 | h4
          · exact slt_trans hbt h4
          · rw [← h4]; exact hbt
theorem between_spec {a b : Str} (hab : sless a b = true) : Btw a b (betweenF a b) := by
  rw [betweenF, if_pos hab, fromN]
  refine first_spec (sless_iff.1 hab) _ 1 (by omega) fun x hl hx => ?_
  rw [List.eq_nil_of_length_eq_zero (show x.length = 0 by omega)] at hx
  exact absurd hx (List.not_lt_nil _)
/-! What is alike at the beginning -/
theorem skip_one {a b : Str} {n k : Nat} (hk : (a : List UInt8).take k = List.take k b) (hn : n ≤ k) (hka : k ≤ (a : List UInt8).length) : okN a b n = false := by
  cases e : (aftF a n).2 with
  | false => rw [okN, e]; rfl
  | true =>
    obtain ⟨h1, h2, -⟩ := aft_some e
    have h3 := (lt_take_iff _ _).1 h2
    rw [h1] at h3
    have h4 : (a : List UInt8).take n = List.take n b := by
      have := congrArg (List.take n) hk
      rwa [List.take_take, List.take_take, Nat.min_eq_left hn] at this
    rw [h4] at h3
    have h5 := (lt_take_iff (aftF a n).1 b).2 (by rw [h1]; exact h3)
    rw [okN, sless_iff.2 h5]; simp
theorem skip_all {a b : Str} {k : Nat} (hk : (a : List UInt8).take k = List.take k b) (hka : k ≤ (a : List UInt8).length) (hkb : k ≤ (b : List UInt8).length) : fromN a b 1 = fromN a b (k + 1) := by
  have gen : ∀ n, n ≤ k → fromN a b 1 = fromN a b (n + 1) := by
    intro n
    induction n with
    | zero => intro _; rfl
    | succ n ih =>
      intro h
      rw [ih (by omega), fromN_no (by omega) (skip_one hk h hka)]
  exact gen k (Nat.le_refl _)
theorem pre_lt {a b : List UInt8} {k : Nat} (hk : a.take k = b.take k) (hab : a < b) (hka : k ≤ a.length) (hkb : k ≤ b.length) : k < b.length ∧ (k < a.length → ¬ b.getD k 0 < a.getD k 0) := by
  have gen : ∀ (k : Nat) (a b : List UInt8), a.take k = b.take k → a < b → k ≤ a.length → k ≤ b.length → k < b.length ∧ (k < a.length → ¬ b.getD k 0 < a.getD k 0) := by
    intro k
    induction k with
    | zero =>
      intro a b _ hab _ _
      cases b with
      | nil => exact absurd hab (List.not_lt_nil _)
      | cons d s =>
        refine ⟨by simp, fun h => ?_⟩
        cases a with
        | nil => simp at h
        | cons c r =>
          rw [List.cons_lt_cons_iff] at hab
          simp only [List.getD_cons_zero, UInt8.lt_iff_toNat_lt, ← UInt8.toNat_inj] at *
          omega
    | succ k ih =>
      intro a b hk hab hka hkb
      cases a with
      | nil => simp at hka
      | cons c r =>
        cases b with
        | nil => simp at hkb
        | cons d s =>
          simp only [List.take_succ_cons, List.cons.injEq] at hk
          obtain ⟨rfl, hk⟩ := hk
          rw [List.cons_lt_cons_iff] at hab
          have h := ih r s hk (hab.elim (fun h => absurd h (by simp [UInt8.lt_iff_toNat_lt])) (·.2)) (by simpa using hka) (by simpa using hkb)
          simpa using h
  exact gen k a b hk hab hka hkb
theorem pre_step {a b : List UInt8} {k : Nat} (hk : a.take k = b.take k) (hka : k < a.length) (hkb : k < b.length) (he : a.getD k 0 = b.getD k 0) : a.take (k + 1) = b.take (k + 1) := by
  rw [take_at 0 hka, take_at 0 hkb, hk, he]
theorem quick {a b : Str} {k : Nat} (hk : (a : List UInt8).take k = List.take k b) (hka : k < (a : List UInt8).length) (hkb : k < (b : List UInt8).length) (hlt : (((a : List UInt8).getD k 0).toNat : Int) + 1 < ((List.getD b k 0).toNat : Int)) :
    fromN a b 1 = List.take k a ++ strOfBytes [((((a : List UInt8).getD k 0).toNat : Nat) : Int) + 1] := by
  rw [skip_all hk (by omega) (by omega)]
  have hd := (List.getD b k 0).toNat_lt
  have hget : (bytesOfStr a).getD k 0 = (((a : List UInt8).getD k 0).toNat : Int) := by
    rw [bytesOfStr, List.getD_eq_getElem?_getD, List.getElem?_map, List.getD_eq_getElem?_getD, List.getElem?_eq_getElem hka]; rfl
  have hI : aftI (bytesOfStr a) (k + 1) = some ((bytesOfStr a).take k ++ [(((a : List UInt8).getD k 0).toNat : Int) + 1]) := by
    rw [aft_long (by omega), take_at 0 (by rw [bytes_len]; exact hka), incI_snoc, if_neg (by rw [hget]; omega), hget]
  have hA : aftF a (k + 1) = (List.take k a ++ strOfBytes [((((a : List UInt8).getD k 0).toNat : Nat) : Int) + 1], true) := by
    rw [aftF_some hI]
    have e2 : strOfBytes ((bytesOfStr a).take k ++ [(((a : List UInt8).getD k 0).toNat : Int) + 1]) = strOfBytes ((bytesOfStr a).take k) ++ strOfBytes [(((a : List UInt8).getD k 0).toNat : Int) + 1] := by
      unfold strOfBytes; rw [List.map_append]
    rw [e2, show (bytesOfStr a).take k = bytesOfStr (List.take k a) by unfold bytesOfStr; rw [List.map_take], str_bytes]
  rw [fromN_yes (by omega) ?_, hA]
  rw [okN, hA]
  simp only [Bool.true_and, Bool.not_eq_true']
  cases e : sless b (List.take k a ++ strOfBytes [((((a : List UInt8).getD k 0).toNat : Nat) : Int) + 1]) with
  | false => rfl
  | true =>
    exfalso
    have h1 := (bytes_lt _ _).2 (sless_iff.1 e)
    have h2 := (lt_take_iff _ _).1 h1
    have e3 : bytesOfStr (List.take k a ++ strOfBytes [((((a : List UInt8).getD k 0).toNat : Nat) : Int) + 1]) = bytesOfStr (List.take k b) ++ [((((a : List UInt8).getD k 0).toNat : Nat) : Int) + 1] := by
      rw [← hk]
      have := bytes_str [((((a : List UInt8).getD k 0).toNat : Nat) : Int) + 1] (fun x hx => by rw [List.mem_singleton.1 hx]; omega)
      unfold bytesOfStr at *
      rw [List.map_append, this]
    have hgb : (bytesOfStr b).getD k 0 = ((List.getD b k 0).toNat : Int) := by
      rw [bytesOfStr, List.getD_eq_getElem?_getD, List.getElem?_map, List.getD_eq_getElem?_getD, List.getElem?_eq_getElem hkb]; rfl
    rw [e3] at h2
    have hl : (bytesOfStr (List.take k b) ++ [((((a : List UInt8).getD k 0).toNat : Nat) : Int) + 1]).length = k + 1 := by
      rw [List.length_append, bytes_len, List.length_take, List.length_singleton]; omega
    rw [hl, take_at 0 (by rw [bytes_len]; exact hkb), hgb, show (bytesOfStr b).take k = bytesOfStr (List.take k b) by unfold bytesOfStr; rw [List.map_take]] at h2
    have gen : ∀ (p : List Int) (c d : Int), p ++ [c] < p ++ [d] → c < d := by
      intro p
      induction p with
      | nil => intro c d h; rw [List.nil_append, List.nil_append, List.cons_lt_cons_iff] at h; rcases h with h | ⟨-, h⟩; exact h; exact absurd h (List.not_lt_nil _)
      | cons x p ih => intro c d h; rw [List.cons_append, List.cons_append, List.cons_lt_cons_iff] at h; rcases h with h | ⟨-, h⟩; omega; exact ih c d h
    have := gen _ _ _ h2
    omega
end Go.Proofs.Ytcgfolhnoggjfaa
