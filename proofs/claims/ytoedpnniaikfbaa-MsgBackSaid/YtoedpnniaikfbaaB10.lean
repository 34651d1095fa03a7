import Derived.Test.YtoedpnniaikfbaaB9



set_option linter.unusedVariables false
set_option linter.unusedSimpArgs false
namespace Go.Proofs.Ytoedpnniaikfbaa
open Go.Eng
theorem putText_len (s : List UInt8) : (putText s).length ≤ 2 * s.length + 2 := by
  have := escI_len (bytesOfStr s)
  have e : (bytesOfStr s).length = s.length := by simp [bytesOfStr]
  simp only [putText, putB, List.length_append, List.length_cons, List.length_nil]; omega
theorem putSmall_len (n : Int) : 1 ≤ (putSmall n).length ∧ (putSmall n).length ≤ 9 := by
  have hw := widthN_le 8 n
  have hl : (layB n (widthN 8 n)).length = widthN 8 n := layB_len _ _
  simp only [putSmall, List.length_cons]; omega
theorem putText_ge (s : List UInt8) : 2 ≤ (putText s).length := by simp [putText, putB]
theorem bytes_str : ∀ (xs : List Int), isB xs → bytesOfStr (strOfBytes xs) = xs
  | [], _ => rfl
  | x :: r, h => by
    have hx := h x (by simp)
    have ih := bytes_str r (fun z hz => h z (by simp [hz]))
    show ((UInt8.ofNat x.toNat).toNat : Int) :: bytesOfStr (strOfBytes r) = _
    rw [ih, UInt8.toNat_ofNat']
    congr 1; omega
theorem str_inj {xs ys : List Int} (hx : isB xs) (hy : isB ys) (h : strOfBytes xs = strOfBytes ys) : xs = ys := by
  rw [← bytes_str xs hx, h, bytes_str ys hy]
theorem behind_facts {b m o : List Int} (hb : isB b) (ho : isB o) (hm : isB m) :
    ((behL b).2 = false → (b.length ≤ o.length ∧ strOfBytes (o.take b.length) = strOfBytes b) ∨ Lib.compareBytes (strOfBytes o) (strOfBytes b) < 0) ∧
    ((behL b).2 = true → Lib.compareBytes (strOfBytes (b ++ m)) (strOfBytes (behL b).1) < 0 ∧ ((0 ≤ Lib.compareBytes (strOfBytes o) (strOfBytes b) ∧ Lib.compareBytes (strOfBytes o) (strOfBytes (behL b).1) < 0) ↔ (b.length ≤ o.length ∧ strOfBytes (o.take b.length) = strOfBytes b))) := by
  have hs : strOfBytes (o.take b.length) = strOfBytes b ↔ o.take b.length = b := ⟨str_inj (isB_take ho _) hb, fun h => by rw [h]⟩
  rw [hs, cmpB_eq o b ho hb, behL_F]
  cases hf : behF b with
  | none =>
    refine ⟨fun _ => behF_none hb hf o ho, fun h => by simp at h⟩
  | some x =>
    refine ⟨fun h => by simp at h, fun _ => ?_⟩
    have hx := behF_isB hb hf
    simp only
    rw [cmpB_eq _ _ (isB_append hb hm) hx, cmpB_eq _ _ ho hx]
    exact ⟨behF_long m hf, behF_some hb hf o ho⟩
theorem wrap_bd (n : Int) : -9223372036854775808 ≤ IntKind.i64.wrap n ∧ IntKind.i64.wrap n ≤ 9223372036854775807 := by
  rw [IntKind.wrap_i64]; omega
theorem wrapCut {n : Nat} (h : 1 ≤ n) : ((n : Int) - 1).toNat = n - 1 := by omega
abbrev B2T : Ty := .pair BT BT
def sOrdkeyCompares : PSpec := lawSpec [BT, BT]
def sOrdkeyOrder : PSpec := lawSpec [.str, .str, B2T]
def sOrdkeyBehind : PSpec := lawSpec [BT, BT, BT]
def sOrdkeyNumbers : PSpec := lawSpec [.int .i64, .int .i64, .pair (.int .u64) (.int .u64)]
def sOrdkeyBack : PSpec := lawSpec [.str, .int .u64, BT]
end Go.Proofs.Ytoedpnniaikfbaa
