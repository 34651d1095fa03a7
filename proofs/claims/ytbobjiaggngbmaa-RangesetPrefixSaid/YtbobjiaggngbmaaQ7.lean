import Derived.Test.YtbobjiaggngbmaaTab
import Derived.Test.YtbobjiaggngbmaaEng6
import Derived.RangeFuncBox
import Derived.RangeFuncLeaves
import Derived.Shelf.Abstract
import Derived.WalkKit
import Derived.OwnWalkIn
import Derived.TacticsInMore
import Derived.LoopNIn
import Derived.LoopIn
import Derived.Test.YtbobjiaggngbmaaEng4
import Derived.Test.YtbobjiaggngbmaaEng5
/- Texts, one behind the other. -/
set_option linter.unusedVariables false
set_option linter.unusedSimpArgs false
namespace Go.Proofs.Ytbobjiaggngbmaa
open Go.Proofs Go.RowKit Go.Shelf Go.Eng
attribute [local go_sem] Oper.semAt_some
theorem kept_cell {Kx : Nat → Go.Obj → Prop} {A B : World} (h : Kept Kx A B) {p : Addr} (hk : ∀ o, A.heap[p.block]? = some o → Kx p.block o) {v : Value} (hc : A.cell? p = some v) : B.cell? p = some v := by
  unfold World.cell? at hc ⊢
  cases ho : A.heap[p.block]? with
  | none => simp [ho] at hc
  | some o => rw [h.same _ o ho (hk o ho)]; rw [ho] at hc; exact hc
def rgVal (r : List UInt8 × List UInt8) : Value := .agg #[.string ⟨⟨r.1⟩⟩, .string ⟨⟨r.2⟩⟩]
def rg0 : List UInt8 × List UInt8 := ([], [])
set_option maxRecDepth 100000 in
set_option maxHeartbeats 4000000 in
theorem vals1_in (F : Fence) (n : Nat) (h7 : F.fn 65) (hro : F.round = none) (hn : 1 ≤ n) (l Bs off : Nat) (sub : Option Nat) (ad : Addr) (cap : Nat) (rs : List (List UInt8 × List UInt8)) (hreach : rs.length ≤ 1000000) (Kx : Nat → Go.Obj → Prop) (hnc : ∀ b o, o.isCells = false → Kx b o) (J : List Value → World → Prop)
    (W : World) (hJ : OwnFrom W.heap.size J) (hY : ∀ pre x post W1, rs.map rgVal = pre ++ x :: post → W.heap.size ≤ W1.heap.size → J pre W1 → YieldAt F (n - 1) Try.prog l #[x] W1 fun e W' => e = .returned (.bool true) ∧ J (pre ++ [x]) W' ∧ Kept Kx W1 W')
    (hBs : W.cell? ⟨Bs, off, sub⟩ = some (.slice (some ad) rs.length cap)) (hc : ∀ j, j < rs.length → W.cell? (ad.add (j * 2)) = some (.string ⟨⟨(rs.getD j rg0).1⟩⟩) ∧ W.cell? ((ad.add (j * 2)).add 1) = some (.string ⟨⟨(rs.getD j rg0).2⟩⟩)) (hKs : ∀ o, W.heap[Bs]? = some o → Kx Bs o) (hKb : 0 < rs.length → ∀ o, W.heap[ad.block]? = some o → Kx ad.block o) (h0 : J [] W) :
    CallsIn F n Try.prog 65 #[.func (.yield l) #[] #[], .pointer (some ⟨Bs, off, sub⟩)] W fun e W' => (∃ v, e = .returned v) ∧ J (rs.map rgVal) W' := by
  refine callsIn_of_wp Try.func65 rfl h7 ?_ hro
  simp only [Try.ntmps65, List.size_toArray, List.length_cons, List.length_nil, Nat.reduceAdd, Nat.reduceSub, Array.replicate_succ, Array.replicate_zero, List.push_toArray, List.append_toArray, List.nil_append, List.cons_append]
  gi_wp2
  gi_loopw [7] (fun i wr => ∃ k : Nat, k ≤ rs.length ∧ i = .int .i64 k ∧ J ((rs.take k).map rgVal) wr ∧ Kept Kx W wr) (fun i _ => rs.length - (intOf i).toNat)
  case atStart => exact ⟨0, Nat.zero_le _, rfl, by rw [List.take_zero]; exact h0, Kept.refl _⟩
  case round =>
    obtain ⟨k, hk, rfl, hJs, hnx⟩ := hrel
    by_cases hlt : k < rs.length
    · have hat : rs.map rgVal = (rs.take k).map rgVal ++ rgVal (rs.getD k rg0) :: (rs.drop (k + 1)).map rgVal := by
        conv => lhs; rw [← List.take_append_drop k rs]
        rw [List.map_append, List.drop_eq_getElem_cons hlt, List.map_cons, List.getD_eq_getElem?_getD, List.getElem?_eq_getElem hlt]; rfl
      have hst : (rs.take (k + 1)).map rgVal = (rs.take k).map rgVal ++ [rgVal (rs.getD k rg0)] := by
        rw [List.take_add_one, List.map_append, List.getElem?_eq_getElem hlt, List.getD_eq_getElem?_getD, List.getElem?_eq_getElem hlt]; rfl
      obtain ⟨k0, k1⟩ := hc k hlt
      have hKb' := hKb (by omega)
      replace k0 := kept_cell hnx (p := ad.add (k * 2)) (by rw [add_block]; exact hKb') k0
      replace k1 : wr.cell? ⟨(ad.add (k * 2)).block, (ad.add (k * 2)).off + 1, none⟩ = some (.string ⟨⟨(rs.getD k rg0).2⟩⟩) := kept_cell hnx (p := (ad.add (k * 2)).add 1) (by rw [add_block, add_block]; exact hKb') k1
      generalize rs.getD k rg0 = x at *
      obtain ⟨lo, hi⟩ := x
      dsimp only at k0 k1
      have hJa : J ((rs.take k).map rgVal) (wr.alloc (.cells #[.string ⟨⟨lo⟩⟩, .string ⟨⟨hi⟩⟩] 29)) := (OwnFrom.alloc hJ _ hJs)
      obtain ⟨fn, tmps, assign, body, hy, hR⟩ := hY _ _ _ (wr.alloc (.cells #[.string ⟨⟨lo⟩⟩, .string ⟨⟨hi⟩⟩] 29)) hat (by have := hnx.size; simp; omega) hJa
      have hka := Kept.grown (Kx := Kx) (World.grownBy_alloc wr (.cells #[.string ⟨⟨lo⟩⟩, .string ⟨⟨hi⟩⟩] 29) none) (fun r e => by cases e)
      dsimp only [rgVal] at hy
      gi_wp2
      refine hR.mono ?_
      rintro e W3 ⟨rfl, hJ3, hk3⟩
      gi_wp2
      go_roundw
      case rel => exact ⟨k + 1, by omega, by simp, by rw [hst]; exact hJ3, hnx.trans (hka.trans hk3)⟩
      case measure => simp [intOf]; omega
    · obtain rfl : k = rs.length := by omega
      gi_wp2
      go_end0
      refine ⟨⟨_, rfl⟩, ?_⟩
      rw [List.take_length] at hJs
      exact hJs
set_option maxRecDepth 100000 in
set_option maxHeartbeats 1000000 in
theorem vals1_nil_in (F : Fence) (n : Nat) (h7 : F.fn 65) (hro : F.round = none) (l Bs off : Nat) (sub : Option Nat) (J : List Value → World → Prop) (W : World) (hBs : W.cell? ⟨Bs, off, sub⟩ = some (.slice none 0 0)) (h0 : J [] W) :
    CallsIn F n Try.prog 65 #[.func (.yield l) #[] #[], .pointer (some ⟨Bs, off, sub⟩)] W fun e W' => (∃ v, e = .returned v) ∧ J [] W' := by
  refine callsIn_of_wp Try.func65 rfl h7 ?_ hro
  simp only [Try.ntmps65, List.size_toArray, List.length_cons, List.length_nil, Nat.reduceAdd, Nat.reduceSub, Array.replicate_succ, Array.replicate_zero, List.push_toArray, List.append_toArray, List.nil_append, List.cons_append]
  gi_wp2
  gi_loopw [7] (fun i wr => i = .int .i64 0 ∧ J [] wr) (fun _ _ => 0)
  case atStart => exact ⟨rfl, h0⟩
  case round =>
    obtain ⟨rfl, hJs⟩ := hrel
    gi_wp2
    go_end0
    exact ⟨⟨_, rfl⟩, hJs⟩
def HoldsR (W : World) (P : Nat → Prop) (sv : Value) (rs : List (List UInt8 × List UInt8)) : Prop :=
  (sv = .slice none 0 0 ∧ rs = []) ∨ ∃ ad cap, sv = .slice (some ad) rs.length cap ∧ ∀ j, j < rs.length → P ad.block ∧ W.cell? (ad.add (j * 2)) = some (.string ⟨⟨(rs.getD j rg0).1⟩⟩) ∧ W.cell? ((ad.add (j * 2)).add 1) = some (.string ⟨⟨(rs.getD j rg0).2⟩⟩)
theorem vals_all (Bs off : Nat) (sub : Option Nat) (sv : Value) (rs : List (List UInt8 × List UInt8)) (hreach : rs.length ≤ 1000000) (Kx : Nat → Go.Obj → Prop) (hnc : ∀ b o, o.isCells = false → Kx b o) (w : World) (hb : Bs < w.heap.size) (hKs : ∀ o, w.heap[Bs]? = some o → Kx Bs o)
    (hBs : w.cell? ⟨Bs, off, sub⟩ = some sv) (hv : HoldsR w (fun b => b < w.heap.size ∧ ∀ o, w.heap[b]? = some o → Kx b o) sv rs) (n : Nat) (hn : 1 ≤ n) :
    SeqAll Fence.wide n Try.prog 65 #[.pointer (some ⟨Bs, off, sub⟩)] (fun x : Value => #[x]) Kx (rs.map rgVal) 0 w := fun l J W hW hsz hJ hY0 h0 => by
  have hs := hW.size
  have hBs' := (hW.cell (p := ⟨Bs, off, sub⟩) hb).trans hBs
  rcases hv with ⟨rfl, rfl⟩ | ⟨ad, cap, rfl, hc⟩
  · exact vals1_nil_in Fence.wide n trivial rfl l Bs off sub J W hBs' h0
  · exact vals1_in Fence.wide n trivial rfl hn l Bs off sub ad cap rs hreach Kx hnc J W hJ (fun pre x post W1 h1 h2 h3 => hY0 pre x post W1 h1 (by omega) h3) hBs'
      (fun j hj => ⟨(hW.cell (p := ad.add (j * 2)) (by rw [add_block]; exact (hc j hj).1.1)).trans (hc j hj).2.1, (hW.cell (p := (ad.add (j * 2)).add 1) (by rw [add_block, add_block]; exact (hc j hj).1.1)).trans (hc j hj).2.2⟩)
      (fun o ho => hKs o ((hW.block _ hb).symm.trans ho)) (fun h1 o ho => (hc 0 h1).1.2 o ((hW.block _ (hc 0 h1).1.1).symm.trans ho)) h0
end Go.Proofs.Ytbobjiaggngbmaa

set_option linter.unusedVariables false
set_option linter.unusedSimpArgs false
set_option maxRecDepth 8000
set_option maxHeartbeats 4000000
namespace Go.Proofs.Ytbobjiaggngbmaa
open Go.Eng
def cstep {α : Type} [DecidableEq α] (acc : List α) (x : α) : List α := if acc.getLast? = some x then acc else acc ++ [x]
def compL {α : Type} [DecidableEq α] (l : List α) : List α := l.foldl cstep []
section
variable {α : Type} [DecidableEq α]
theorem compL_snoc (l : List α) (x : α) : compL (l ++ [x]) = cstep (compL l) x := by rw [compL, List.foldl_append]; rfl
theorem compL_rev : ∀ (n : Nat) (l : List α), l.length = n → (compL l).getLast? = l.getLast? ∧ (compL l).length ≤ l.length
  | 0, l, h => by rw [List.eq_nil_of_length_eq_zero h]; exact ⟨rfl, Nat.le_refl _⟩
  | n + 1, l, h => by
    have hne : l ≠ [] := by rintro rfl; simp at h
    rw [← List.dropLast_concat_getLast hne]
    have h3 : l.dropLast.length = l.length - 1 := List.length_dropLast
    have ih := compL_rev n l.dropLast (by omega)
    rw [compL_snoc, cstep]
    split
    · rename_i hs
      rw [hs, List.length_append]; exact ⟨by simp, by have := ih.2; simp; omega⟩
    · rw [List.length_append, List.length_append]; exact ⟨by simp, by have := ih.2; simp; omega⟩
theorem compL_last (l : List α) : (compL l).getLast? = l.getLast? := (compL_rev _ l rfl).1
theorem compL_step (d : α) {xs : List α} {n : Nat} (h1 : 1 ≤ n) (h : n < xs.length) : compL (xs.take (n + 1)) = if xs.getD (n - 1) d = xs.getD n d then compL (xs.take n) else compL (xs.take n) ++ [xs.getD n d] := by
  rw [take_at d h, compL_snoc, cstep, compL_last]
  have e : (xs.take n).getLast? = some (xs.getD (n - 1) d) := by
    rw [List.getLast?_eq_getElem?, List.length_take, Nat.min_eq_left (by omega), List.getElem?_take, if_pos (by omega), List.getElem?_eq_getElem (by omega)]
    simp [List.getD, show n - 1 < xs.length by omega]
  rw [e]
  simp only [Option.some.injEq]
theorem compL_eq (d : α) {xs : List α} {n : Nat} (h1 : 1 ≤ n) (h : n < xs.length) (he : xs.getD n d = xs.getD (n - 1) d) : compL (xs.take (n + 1)) = compL (xs.take n) := by
  rw [compL_step d h1 h, if_pos he.symm]
theorem compL_ne (d : α) {xs : List α} {n : Nat} (h1 : 1 ≤ n) (h : n < xs.length) (he : ¬ xs.getD n d = xs.getD (n - 1) d) : compL (xs.take (n + 1)) = compL (xs.take n) ++ [xs.getD n d] := by
  rw [compL_step d h1 h, if_neg (fun hc => he hc.symm)]
end
structure CF {α : Type} [DecidableEq α] (xs : List α) (k : Nat) (zs : List (Option α)) (i j : Nat) : Prop where
  len : zs.length = xs.length + k
  cnt : i = (compL (xs.take j)).length
  lt : i < j
  le : j ≤ xs.length
  front : zs.take i = (compL (xs.take j)).map some
  rest : zs.drop (j - 1) = (xs.map some ++ List.replicate k none).drop (j - 1)
section
variable {α : Type} [DecidableEq α] {xs : List α} {k : Nat} {zs : List (Option α)} {i j : Nat}
theorem CF.get (q : CF xs k zs i j) (d : α) {m : Nat} (h : j - 1 ≤ m) (h2 : m < xs.length) : zs.getD m none = some (xs.getD m d) := by
  rw [← raw_getD (k := k) d h2, List.getD_eq_getElem?_getD, List.getD_eq_getElem?_getD]
  have := congrArg (·[m - (j - 1)]?) q.rest
  simp only [List.getElem?_drop, show j - 1 + (m - (j - 1)) = m by omega] at this
  rw [this]
theorem CF.first (d : α) {n : Nat} (h1 : 1 ≤ n) (h : n < xs.length) (hc : compL (xs.take n) = xs.take n) (he : xs.getD n d = xs.getD (n - 1) d) : CF xs k (xs.map some ++ List.replicate k none) n (n + 1) := by
  have e : compL (xs.take (n + 1)) = xs.take n := by rw [compL_eq d h1 h he, hc]
  exact ⟨by simp, by rw [e, List.length_take]; omega, by omega, by omega, by rw [e, raw_take (by omega)], rfl⟩
theorem CF.same (q : CF xs k zs i j) (d : α) (h : j < xs.length) (he : xs.getD j d = xs.getD (j - 1) d) : CF xs k zs i (j + 1) := by
  have hlt := q.lt
  have e : compL (xs.take (j + 1)) = compL (xs.take j) := compL_eq d (by omega) h he
  refine ⟨q.len, by rw [e]; exact q.cnt, by omega, by omega, by rw [e]; exact q.front, ?_⟩
  have := congrArg (List.drop 1) q.rest
  simp only [List.drop_drop] at this
  rw [show j - 1 + 1 = j by omega] at this
  rw [Nat.add_sub_cancel]; exact this
theorem CF.new (q : CF xs k zs i j) (d : α) (h : j < xs.length) (he : ¬ xs.getD j d = xs.getD (j - 1) d) : CF xs k (zs.set i (some (xs.getD j d))) (i + 1) (j + 1) := by
  have hlt := q.lt
  have e : compL (xs.take (j + 1)) = compL (xs.take j) ++ [xs.getD j d] := compL_ne d (by omega) h he
  have hl := q.len
  refine ⟨by rw [List.length_set]; exact hl, by rw [e, List.length_append, ← q.cnt]; rfl, by omega, by omega, ?_, ?_⟩
  · rw [e, List.map_append, ← q.front, take_at none (by rw [List.length_set]; omega), List.take_set_of_le (Nat.le_refl _)]
    congr 1
    rw [List.getD_eq_getElem?_getD, List.getElem?_set_self (by omega)]; rfl
  · have := congrArg (List.drop 1) q.rest
    simp only [List.drop_drop] at this
    rw [show j - 1 + 1 = j by omega] at this
    rw [Nat.add_sub_cancel, List.drop_set_of_lt (by omega)]; exact this
theorem CF.fin (q : CF xs k zs i xs.length) : zs.take i = (compL xs).map some := by
  have := q.front
  rwa [take_all (Nat.le_refl _)] at this
end
theorem sle_cases {x y : List UInt8} (h : x ≤ y) : x < y ∨ x = y := by
  by_cases hx : x < y
  · exact .inl hx
  · exact .inr (slt_total hx (List.not_lt.2 h))
def posK (k : List UInt8) : List (List UInt8) → Nat
  | [] => 0
  | x :: r => if sless x k = true then posK k r + 1 else 0
def addK (l : List (List UInt8)) (k : List UInt8) : List (List UInt8) := if posK k l < l.length ∧ l.getD (posK k l) [] = k then l else l.take (posK k l) ++ [k] ++ l.drop (posK k l)
theorem addK_cons (x : List UInt8) (r : List (List UInt8)) (k : List UInt8) : addK (x :: r) k = if sless x k = true then x :: addK r k else if x = k then x :: r else k :: x :: r := by
  unfold addK
  rw [posK]
  split
  · simp only [List.length_cons, List.getD_cons_succ, List.take_succ_cons, List.drop_succ_cons, Nat.add_lt_add_iff_right]
    split <;> simp
  · simp only [List.length_cons, Nat.zero_lt_succ, List.getD_cons_zero, true_and, List.take_zero, List.drop_zero, List.nil_append]
    rfl
theorem addK_mem (k x : List UInt8) : ∀ (l : List (List UInt8)), x ∈ addK l k ↔ x ∈ l ∨ x = k
  | [] => by simp [addK, posK]
  | y :: r => by
    have ih := addK_mem k x r
    rw [addK_cons]
    split
    · rw [List.mem_cons, ih, List.mem_cons, or_assoc]
    · split
      · rename_i h; subst h
        rw [List.mem_cons]
        exact ⟨.inl, fun h => h.elim id .inl⟩
      · rw [List.mem_cons]; exact or_comm
theorem addK_rise (k : List UInt8) : ∀ (l : List (List UInt8)), l.Pairwise (· < ·) → (addK l k).Pairwise (· < ·)
  | [], _ => by simp [addK, posK]
  | y :: r, h => by
    have h' := List.pairwise_cons.1 h
    have ih := addK_rise k r h'.2
    rw [addK_cons]
    split
    · rename_i hs
      rw [List.pairwise_cons]
      refine ⟨fun z hz => ?_, ih⟩
      rcases (addK_mem k z r).1 hz with h1 | h1
      · exact h'.1 z h1
      · rw [h1]; exact sless_iff.1 hs
    · split
      · exact h
      · rename_i hs hne
        have hky : k < y := by
          rcases sle_cases (List.not_lt.1 (fun hc => hs (sless_iff.2 hc))) with h1 | h1
          · exact h1
          · exact absurd h1.symm hne
        rw [List.pairwise_cons]
        refine ⟨fun z hz => ?_, h⟩
        rcases List.mem_cons.1 hz with h1 | h1
        · rw [h1]; exact hky
        · exact slt_trans hky (h'.1 z h1)
theorem foldK (l : List (List UInt8)) : ∀ (acc : List (List UInt8)), acc.Pairwise (· < ·) → (l.foldl addK acc).Pairwise (· < ·) ∧ ∀ x, x ∈ l.foldl addK acc ↔ x ∈ acc ∨ x ∈ l := by
  induction l with
  | nil => intro acc h; exact ⟨h, by simp⟩
  | cons k l ih =>
    intro acc h
    obtain ⟨h1, h2⟩ := ih (addK acc k) (addK_rise k acc h)
    refine ⟨h1, fun x => ?_⟩
    rw [List.foldl_cons, h2, addK_mem, List.mem_cons, or_assoc]
end Go.Proofs.Ytbobjiaggngbmaa

set_option linter.unusedVariables false
set_option linter.unusedSimpArgs false
set_option maxRecDepth 8000
set_option maxHeartbeats 1000000
namespace Go.Proofs.Ytbobjiaggngbmaa
open Go.Eng
abbrev Str := List UInt8
abbrev Rg := List UInt8 × List UInt8
def inRg (r : Rg) (k : Str) : Bool := !sless k r.1 && ((r.2 == []) || sless k r.2)
def hasRg (l : List Rg) (k : Str) : Bool := l.any fun r => inRg r k
def InR (r : Rg) (k : Str) : Prop := ¬ k < r.1 ∧ (r.2 = [] ∨ k < r.2)
theorem inRg_iff {r : Rg} {k : Str} : inRg r k = true ↔ InR r k := by
  unfold inRg InR
  rw [Bool.and_eq_true, Bool.or_eq_true, Bool.not_eq_true', ← Bool.not_eq_true, sless_iff, sless_iff, beq_iff_eq]
theorem hasRg_iff {l : List Rg} {k : Str} : hasRg l k = true ↔ ∃ r ∈ l, InR r k := by
  unfold hasRg
  rw [List.any_eq_true]
  exact ⟨fun ⟨r, h1, h2⟩ => ⟨r, h1, inRg_iff.1 h2⟩, fun ⟨r, h1, h2⟩ => ⟨r, h1, inRg_iff.2 h2⟩⟩
theorem sle_trans {a b c : Str} (h1 : ¬ b < a) (h2 : ¬ c < b) : ¬ c < a := fun hc => by
  rcases sle_cases (List.not_lt.1 h1) with h3 | h3
  · exact h2 (slt_trans hc h3)
  · exact h2 (by rw [← h3]; exact hc)
theorem sle_lt {a b c : Str} (h1 : ¬ b < a) (h2 : b < c) : a < c := by
  rcases sle_cases (List.not_lt.1 h1) with h3 | h3
  · exact slt_trans h3 h2
  · rw [h3]; exact h2
theorem slt_le {a b c : Str} (h1 : a < b) (h2 : ¬ c < b) : a < c := by
  rcases sle_cases (List.not_lt.1 h2) with h3 | h3
  · exact slt_trans h1 h3
  · rw [← h3]; exact h1
theorem slt_nil (k : Str) : ¬ k < [] := List.not_lt_nil k
def PlainR : List Rg → Prop
  | [] => True
  | r :: t => (r.2 = [] ∨ r.1 < r.2) ∧ (∀ q, t.head? = some q → r.2 ≠ [] ∧ r.2 < q.1) ∧ PlainR t
theorem plain_all : ∀ {t : List Rg} {r : Rg}, PlainR (r :: t) → ∀ q ∈ t, r.2 ≠ [] ∧ r.2 < q.1
  | [], r, _, q, hq => by cases hq
  | x :: t, r, h, q, hq => by
    obtain ⟨h1, h2⟩ := h.2.1 x rfl
    rcases List.mem_cons.1 hq with rfl | hq
    · exact ⟨h1, h2⟩
    · obtain ⟨h3, h4⟩ := plain_all h.2.2 q hq
      refine ⟨h1, slt_trans h2 (slt_trans ?_ h4)⟩
      rcases h.2.2.1 with h5 | h5
      · exact absurd h5 h3
      · exact h5
theorem plain_has {r : Rg} {t : List Rg} (h : PlainR (r :: t)) {k : Str} (hk : hasRg t k = true) : r.2 ≠ [] ∧ r.2 < k := by
  obtain ⟨q, hq, hi⟩ := hasRg_iff.1 hk
  obtain ⟨h1, h2⟩ := plain_all h q hq
  exact ⟨h1, slt_le h2 hi.1⟩
theorem plain_lo {r : Rg} {t : List Rg} (h : PlainR (r :: t)) {k : Str} (hk : hasRg (r :: t) k = true) : ¬ k < r.1 := by
  obtain ⟨q, hq, hi⟩ := hasRg_iff.1 hk
  rcases List.mem_cons.1 hq with rfl | hq
  · exact hi.1
  · obtain ⟨h1, h2⟩ := plain_has h (hasRg_iff.2 ⟨q, hq, hi⟩)
    rcases h.1 with h3 | h3
    · exact absurd h3 h1
    · exact slt_asymm (slt_trans h3 h2)
theorem plain_first {r : Rg} {t : List Rg} (h : PlainR (r :: t)) : hasRg (r :: t) r.1 = true :=
  hasRg_iff.2 ⟨r, List.mem_cons_self, slt_irrefl _, h.1⟩
theorem has_cons (r : Rg) (t : List Rg) (k : Str) : hasRg (r :: t) k = (inRg r k || hasRg t k) := rfl
theorem plain_uniq : ∀ {a b : List Rg}, PlainR a → PlainR b → (∀ k, hasRg a k = hasRg b k) → a = b
  | [], [], _, _, _ => rfl
  | [], r :: t, _, hb, h => by have := h r.1; rw [plain_first hb] at this; cases this
  | r :: t, [], ha, _, h => by have := h r.1; rw [plain_first ha] at this; cases this
  | r :: t, q :: s, ha, hb, h => by
    have h1 : ¬ q.1 < r.1 := plain_lo ha (by rw [h]; exact plain_first hb)
    have h2 : ¬ r.1 < q.1 := plain_lo hb (by rw [← h]; exact plain_first ha)
    have hlo : r.1 = q.1 := slt_total h2 h1
    -- what ends first is not in the other one
    have key : ∀ {r q : Rg} {t s : List Rg}, PlainR (r :: t) → PlainR (q :: s) → (∀ k, hasRg (r :: t) k = hasRg (q :: s) k) → r.1 = q.1 → r.2 ≠ [] → ¬ (q.2 = [] ∨ r.2 < q.2) := fun {r q t s} ha hb h hlo hr hc => by
      have hlt : r.1 < r.2 := ha.1.resolve_left hr
      have h3 : hasRg (q :: s) r.2 = true := hasRg_iff.2 ⟨q, List.mem_cons_self, by rw [← hlo]; exact slt_asymm hlt, hc⟩
      rw [← h] at h3
      obtain ⟨x, hx, hi⟩ := hasRg_iff.1 h3
      rcases List.mem_cons.1 hx with rfl | hx
      · rcases hi.2 with h4 | h4
        · exact hr h4
        · exact slt_irrefl _ h4
      · exact hi.1 (plain_all ha x hx).2
    have hhi : r.2 = q.2 := by
      by_cases hr : r.2 = []
      · by_cases hq : q.2 = []
        · rw [hr, hq]
        · exact absurd (.inl hr) (key hb ha (fun k => (h k).symm) hlo.symm hq)
      · by_cases hq : q.2 = []
        · exact absurd (.inl hq) (key ha hb h hlo hr)
        · exact slt_total (fun hc => key ha hb h hlo hr (.inr hc)) (fun hc => key hb ha (fun k => (h k).symm) hlo.symm hq (.inr hc))
    obtain rfl : r = q := Prod.ext hlo hhi
    congr 1
    refine plain_uniq ha.2.2 hb.2.2 fun k => ?_
    have hk := h k
    rw [has_cons, has_cons] at hk
    cases hi : inRg r k
    · rw [hi] at hk; exact hk
    · have hno : ∀ {t : List Rg}, PlainR (r :: t) → hasRg t k = false := fun {t} hp => Bool.eq_false_iff.2 fun hc => by
        obtain ⟨h4, h5⟩ := plain_has hp hc
        rcases (inRg_iff.1 hi).2 with h6 | h6
        · exact h4 h6
        · exact slt_asymm h5 h6
      rw [hno ha, hno hb]
def madeF (p : Str → Bool) : Option Str → List Str → List Rg
  | none, [] => []
  | some lo, [] => [(lo, [])]
  | none, e :: es => if p e = true then madeF p (some e) es else madeF p none es
  | some lo, e :: es => if p e = true then madeF p (some lo) es else (lo, e) :: madeF p none es
def Steady (p : Str → Bool) : List Str → Prop
  | [] => True
  | e :: es => (∀ k, ¬ k < e → (∀ x, es.head? = some x → k < x) → p k = p e) ∧ Steady p es
theorem hd_lt {e : Str} {es : List Str} (h : (e :: es).Pairwise (· < ·)) : ∀ x, es.head? = some x → e < x := fun x hx => (List.pairwise_cons.1 h).1 x (List.mem_of_mem_head? hx)
theorem madeF_both {p : Str → Bool} : ∀ {es : List Str}, es.Pairwise (· < ·) → Steady p es →
    (∀ lo, (∀ x, es.head? = some x → lo < x) → (∀ e ∈ es, e ≠ []) → PlainR (madeF p (some lo) es) ∧ (∃ hi, (madeF p (some lo) es).head? = some (lo, hi)) ∧ ∀ k, hasRg (madeF p (some lo) es) k = true ↔ ¬ k < lo ∧ (∀ x, es.head? = some x → k < x ∨ p k = true)) ∧
    ((∀ e ∈ es.tail, e ≠ []) → PlainR (madeF p none es) ∧ (∀ r, (madeF p none es).head? = some r → ∃ x, es.head? = some x ∧ ¬ r.1 < x) ∧ ∀ k, hasRg (madeF p none es) k = true ↔ ∃ x, es.head? = some x ∧ ¬ k < x ∧ p k = true)
  | [], _, _ => by
    refine ⟨fun lo _ _ => ⟨⟨.inl rfl, fun q h => (by cases h), trivial⟩, ⟨[], rfl⟩, fun k => ?_⟩, fun _ => ⟨trivial, fun r h => (by cases h), fun k => ⟨fun h => (by cases h), fun ⟨x, h, _⟩ => (by cases h)⟩⟩⟩
    show hasRg [(lo, [])] k = true ↔ _
    rw [hasRg_iff]
    exact ⟨fun ⟨r, hr, hi⟩ => by rw [List.mem_singleton] at hr; subst hr; exact ⟨hi.1, fun x hx => by cases hx⟩, fun h => ⟨_, List.mem_cons_self, h.1, .inl rfl⟩⟩
  | e :: es, hr, hs => by
    obtain ⟨ihS, ihN⟩ := madeF_both (p := p) (List.pairwise_cons.1 hr).2 hs.2
    have hd := hd_lt hr
    have hst := hs.1
    refine ⟨fun lo hlo hne => ?_, fun hne => ?_⟩
    · have hle : lo < e := hlo e rfl
      have hne' : ∀ x ∈ es, x ≠ [] := fun x hx => hne x (List.mem_cons_of_mem _ hx)
      rw [madeF]
      split
      · rename_i hp
        obtain ⟨h1, h2, h3⟩ := ihS lo (fun x hx => slt_trans hle (hd x hx)) hne'
        refine ⟨h1, h2, fun k => ?_⟩
        rw [h3]
        refine and_congr_right fun hk => ⟨fun h x hx => ?_, fun h x hx => ?_⟩
        · simp only [List.head?_cons, Option.some.injEq] at hx
          subst hx
          by_cases hke : k < e
          · exact .inl hke
          · refine .inr ?_
            cases hh : es.head? with
            | none => rw [hst k hke fun x hx => (by rw [hh] at hx; cases hx), hp]
            | some x =>
              rcases h x hh with h4 | h4
              · rw [hst k hke fun y hy => (by rw [hh] at hy; cases hy; exact h4), hp]
              · exact h4
        · rcases h e rfl with h4 | h4
          · exact .inl (slt_trans h4 (hd x hx))
          · exact .inr h4
      · rename_i hp
        obtain ⟨h1, h2, h3⟩ := ihN fun x hx => hne' x (List.mem_of_mem_tail hx)
        refine ⟨⟨.inr hle, fun q hq => ?_, h1⟩, ⟨e, rfl⟩, fun k => ?_⟩
        · obtain ⟨x, hx, hq2⟩ := h2 q hq
          exact ⟨hne e List.mem_cons_self, slt_le (hd x hx) hq2⟩
        · rw [has_cons, Bool.or_eq_true, inRg_iff, h3]
          constructor
          · rintro (⟨h4, h5⟩ | ⟨x, hx, h4, h5⟩)
            · exact ⟨h4, fun y hy => by cases hy; exact .inl (h5.resolve_left (hne e List.mem_cons_self))⟩
            · exact ⟨slt_asymm (slt_trans hle (slt_le (hd x hx) h4)), fun y hy => .inr h5⟩
          · rintro ⟨h4, h5⟩
            rcases h5 e rfl with h6 | h6
            · exact .inl ⟨h4, .inr h6⟩
            · by_cases hke : k < e
              · exact .inl ⟨h4, .inr hke⟩
              · refine .inr ?_
                cases hh : es.head? with
                | none => rw [hst k hke fun x hx => (by rw [hh] at hx; cases hx)] at h6; exact absurd h6 hp
                | some x =>
                  refine ⟨x, rfl, fun h7 => ?_, h6⟩
                  rw [hst k hke fun y hy => (by rw [hh] at hy; cases hy; exact h7)] at h6
                  exact hp h6
    · have hne' : ∀ x ∈ es, x ≠ [] := hne
      rw [madeF]
      split
      · rename_i hp
        obtain ⟨h1, ⟨hi, h2⟩, h3⟩ := ihS e hd hne'
        refine ⟨h1, fun r hr2 => ?_, fun k => ?_⟩
        · rw [h2] at hr2; cases hr2
          exact ⟨e, rfl, slt_irrefl _⟩
        · rw [h3]
          constructor
          · rintro ⟨h4, h5⟩
            refine ⟨e, rfl, h4, ?_⟩
            cases hh : es.head? with
            | none => rw [hst k h4 fun x hx => (by rw [hh] at hx; cases hx), hp]
            | some x =>
              rcases h5 x hh with h6 | h6
              · rw [hst k h4 fun y hy => (by rw [hh] at hy; cases hy; exact h6), hp]
              · exact h6
          · rintro ⟨x, hx, h4, h5⟩
            cases hx
            exact ⟨h4, fun x hx => .inr h5⟩
      · rename_i hp
        obtain ⟨h1, h2, h3⟩ := ihN fun x hx => hne' x (List.mem_of_mem_tail hx)
        refine ⟨h1, fun r hr2 => ?_, fun k => ?_⟩
        · obtain ⟨x, hx, h4⟩ := h2 r hr2
          exact ⟨e, rfl, slt_asymm (slt_le (hd x hx) h4)⟩
        · rw [h3]
          constructor
          · rintro ⟨x, hx, h4, h5⟩
            exact ⟨e, rfl, slt_asymm (slt_le (hd x hx) h4), h5⟩
          · rintro ⟨y, hy, h4, h5⟩
            cases hy
            cases hh : es.head? with
            | none => rw [hst k h4 fun x hx => (by rw [hh] at hx; cases hx)] at h5; exact absurd h5 hp
            | some x =>
              refine ⟨x, rfl, fun h7 => ?_, h5⟩
              rw [hst k h4 fun y hy => (by rw [hh] at hy; cases hy; exact h7)] at h5
              exact hp h5
def endsR (l : List Rg) : List Str := (l.flatMap fun r => [r.1, r.2]).foldl addK [[]]
theorem endsR_rise (l : List Rg) : (endsR l).Pairwise (· < ·) := (foldK _ [[]] (List.pairwise_singleton _ _)).1
theorem endsR_mem {l : List Rg} {x : Str} : x ∈ endsR l ↔ x = [] ∨ ∃ r ∈ l, x = r.1 ∨ x = r.2 := by
  rw [endsR, (foldK _ [[]] (List.pairwise_singleton _ _)).2, List.mem_singleton, List.mem_flatMap]
  simp
theorem endsR_nil (l : List Rg) : ∃ t, endsR l = [] :: t := by
  have h1 := endsR_rise l
  have h2 : [] ∈ endsR l := endsR_mem.2 (.inl rfl)
  cases h : endsR l with
  | nil => rw [h] at h2; cases h2
  | cons a t =>
    rw [h] at h1 h2
    rcases List.mem_cons.1 h2 with h3 | h3
    · exact ⟨t, by rw [h3]⟩
    · exact absurd ((List.pairwise_cons.1 h1).1 [] h3) (slt_nil a)
def EndsIn (l : List Rg) (es : List Str) : Prop := ∀ r ∈ l, r.1 ∈ es ∧ r.2 ∈ es
theorem has_steady {l : List Rg} {all : List Str} (hl : EndsIn l all) : ∀ {pre es : List Str}, all = pre ++ es → all.Pairwise (· < ·) → ∀ e t, es = e :: t → ∀ k, ¬ k < e → (∀ x, t.head? = some x → k < x) → hasRg l k = hasRg l e := by
  intro pre es hall hr e t hes k hke hkt
  subst hes
  have hsplit : (pre ++ e :: t).Pairwise (· < ·) := by rw [← hall]; exact hr
  rw [List.pairwise_append, List.pairwise_cons] at hsplit
  have hone : ∀ x ∈ all, (k < x ↔ e < x) := fun x hx => by
    rw [hall] at hx
    constructor
    · intro h
      rcases List.mem_append.1 hx with h1 | h1
      · exact absurd (slt_trans h (hsplit.2.2 x h1 e List.mem_cons_self)) hke
      · rcases List.mem_cons.1 h1 with rfl | h1
        · exact absurd h hke
        · exact hsplit.2.1.1 x h1
    · intro h
      rcases List.mem_append.1 hx with h1 | h1
      · exact absurd (hsplit.2.2 x h1 e List.mem_cons_self) (slt_asymm h)
      · rcases List.mem_cons.1 h1 with rfl | h1
        · exact absurd h (slt_irrefl _)
        · cases ht : t with
          | nil => rw [ht] at h1; cases h1
          | cons y t' =>
            have hy := hkt y (by rw [ht]; rfl)
            rw [ht] at h1
            rcases List.mem_cons.1 h1 with rfl | h1
            · exact hy
            · have h3 := hsplit.2.1.2
              rw [ht] at h3
              exact slt_trans hy ((List.pairwise_cons.1 h3).1 x h1)
  have heq : ∀ r ∈ l, inRg r k = inRg r e := fun r hrl => by
    obtain ⟨h1, h2⟩ := hl r hrl
    rw [Bool.eq_iff_iff, inRg_iff, inRg_iff]
    unfold InR
    rw [hone _ h1, hone _ h2]
  unfold hasRg
  rw [Bool.eq_iff_iff, List.any_eq_true, List.any_eq_true]
  exact ⟨fun ⟨r, h1, h2⟩ => ⟨r, h1, by rw [← heq r h1]; exact h2⟩, fun ⟨r, h1, h2⟩ => ⟨r, h1, by rw [heq r h1]; exact h2⟩⟩
theorem steady_of {p : Str → Bool} {all : List Str} (h : ∀ {pre es : List Str}, all = pre ++ es → ∀ e t, es = e :: t → ∀ k, ¬ k < e → (∀ x, t.head? = some x → k < x) → p k = p e) : ∀ {es pre : List Str}, all = pre ++ es → Steady p es
  | [], _, _ => trivial
  | e :: es, pre, ha => ⟨h ha e es rfl, steady_of h (pre := pre ++ [e]) (by rw [ha]; simp)⟩
def pK (a b : List Rg) (kind : Int) (k : Str) : Bool := if kind = 1 then hasRg a k && hasRg b k else if kind = 2 then hasRg a k && !hasRg b k else hasRg a k || hasRg b k
def madeR (a b : List Rg) (kind : Int) : List Rg := madeF (pK a b kind) none (endsR (a ++ b))
theorem madeR_ok (a b : List Rg) (kind : Int) : PlainR (madeR a b kind) ∧ ∀ k, hasRg (madeR a b kind) k = pK a b kind k := by
  have hr := endsR_rise (a ++ b)
  have hA : EndsIn a (endsR (a ++ b)) := fun r h => ⟨endsR_mem.2 (.inr ⟨r, List.mem_append_left _ h, .inl rfl⟩), endsR_mem.2 (.inr ⟨r, List.mem_append_left _ h, .inr rfl⟩)⟩
  have hB : EndsIn b (endsR (a ++ b)) := fun r h => ⟨endsR_mem.2 (.inr ⟨r, List.mem_append_right _ h, .inl rfl⟩), endsR_mem.2 (.inr ⟨r, List.mem_append_right _ h, .inr rfl⟩)⟩
  have hs : Steady (pK a b kind) (endsR (a ++ b)) := steady_of (all := endsR (a ++ b)) (fun {pre es} ha e t he k h1 h2 => by
    unfold pK
    rw [has_steady hA ha hr e t he k h1 h2, has_steady hB ha hr e t he k h1 h2]) (pre := []) rfl
  obtain ⟨t, ht⟩ := endsR_nil (a ++ b)
  have htail : ∀ e ∈ (endsR (a ++ b)).tail, e ≠ [] := fun e he hc => by
    rw [ht] at he hr
    subst hc
    exact slt_nil _ ((List.pairwise_cons.1 hr).1 [] he)
  obtain ⟨h1, -, h3⟩ := (madeF_both hr hs).2 htail
  refine ⟨h1, fun k => ?_⟩
  rw [Bool.eq_iff_iff]
  show hasRg (madeF _ none _) k = true ↔ _
  rw [h3, ht]
  exact ⟨fun ⟨x, hx, h4, h5⟩ => h5, fun h => ⟨[], rfl, slt_nil k, h⟩⟩
theorem made_uniq {a b l : List Rg} {kind : Int} (hp : PlainR l) (h : ∀ k, hasRg l k = pK a b kind k) : l = madeR a b kind :=
  plain_uniq hp (madeR_ok a b kind).1 fun k => (h k).trans ((madeR_ok a b kind).2 k).symm
end Go.Proofs.Ytbobjiaggngbmaa

set_option linter.unusedVariables false
set_option linter.unusedSimpArgs false
set_option maxRecDepth 8000
set_option maxHeartbeats 1000000
namespace Go.Proofs.Ytbobjiaggngbmaa
open Go.Eng
def emptyR (r : Rg) : Bool := !(r.2 == []) && !sless r.1 r.2
theorem emptyR_iff {r : Rg} : emptyR r = false ↔ (r.2 = [] ∨ r.1 < r.2) := by
  unfold emptyR
  rw [Bool.and_eq_false_iff, Bool.not_eq_false', Bool.not_eq_false', beq_iff_eq, sless_iff]
theorem empty_in {r : Rg} (h : emptyR r = true) (k : Str) : inRg r k = false := by
  refine Bool.eq_false_iff.2 fun hc => ?_
  obtain ⟨h1, h2⟩ := inRg_iff.1 hc
  have : emptyR r = false := emptyR_iff.2 (h2.imp id fun h2 => sle_lt h1 h2)
  rw [h] at this; cases this
theorem has_app (a b : List Rg) (k : Str) : hasRg (a ++ b) k = (hasRg a k || hasRg b k) := List.any_append
theorem has_nil (k : Str) : hasRg [] k = false := rfl
theorem has_one (r : Rg) (k : Str) : hasRg [r] k = inRg r k := by rw [has_cons, has_nil, Bool.or_false]
theorem plain_snoc : ∀ {o : List Rg} {q : Rg}, PlainR (o ++ [q]) ↔ PlainR o ∧ (q.2 = [] ∨ q.1 < q.2) ∧ ∀ p, o.getLast? = some p → p.2 ≠ [] ∧ p.2 < q.1
  | [], q => ⟨fun h => ⟨trivial, h.1, fun p hp => by cases hp⟩, fun h => ⟨h.2.1, fun p hp => (by cases hp), trivial⟩⟩
  | r :: o, q => by
    have ih := plain_snoc (o := o) (q := q)
    rw [List.cons_append, PlainR, PlainR, ih]
    cases o with
    | nil =>
      constructor
      · rintro ⟨h1, h2, h3, h4, h5⟩
        exact ⟨⟨h1, fun q hq => (by cases hq), h3⟩, h4, fun p hp => by cases hp; exact h2 q rfl⟩
      · rintro ⟨⟨h1, h2, h3⟩, h4, h5⟩
        exact ⟨h1, fun p hp => (by cases hp; exact h5 r rfl), trivial, h4, fun p hp => by cases hp⟩
    | cons x o =>
      constructor
      · rintro ⟨h1, h2, h3, h4, h5⟩
        exact ⟨⟨h1, fun p hp => h2 p hp, h3⟩, h4, fun p hp => h5 p (by rw [List.getLast?_cons_cons] at hp; exact hp)⟩
      · rintro ⟨⟨h1, h2, h3⟩, h4, h5⟩
        exact ⟨h1, fun p hp => h2 p hp, h3, h4, fun p hp => h5 p (by rw [List.getLast?_cons_cons]; exact hp)⟩
def maxS (a b : Str) : Str := if sless a b = true then b else a
def minS (a b : Str) : Str := if sless b a = true then b else a
def joinR (q r : Rg) : Rg := if q.2 = [] then q else if r.2 = [] then (q.1, []) else (q.1, maxS q.2 r.2)
def stepP (out : List Rg) (r : Rg) : List Rg :=
  if emptyR r = true then out else
  match out.getLast? with
  | none => out ++ [r]
  | some q => if ¬ q.2 = [] ∧ q.2 < r.1 then out ++ [r] else out.dropLast ++ [joinR q r]
theorem joinR_in {q r : Rg} (hq : q.2 = [] ∨ q.1 < q.2) (hr : r.2 = [] ∨ r.1 < r.2) (hlo : ¬ r.1 < q.1) (hm : q.2 = [] ∨ ¬ q.2 < r.1) : ((joinR q r).2 = [] ∨ (joinR q r).1 < (joinR q r).2) ∧ (joinR q r).1 = q.1 ∧ ∀ k, inRg (joinR q r) k = (inRg q k || inRg r k) := by
  unfold joinR
  split
  · rename_i h0
    refine ⟨hq, rfl, fun k => ?_⟩
    rw [Bool.eq_iff_iff, Bool.or_eq_true, inRg_iff, inRg_iff]
    exact ⟨.inl, fun h => h.elim id fun h => ⟨sle_trans hlo h.1, .inl h0⟩⟩
  · rename_i h0
    have hq := hq.resolve_left h0
    have hm := hm.resolve_left h0
    split
    · rename_i h1
      refine ⟨.inl rfl, rfl, fun k => ?_⟩
      rw [Bool.eq_iff_iff, Bool.or_eq_true, inRg_iff, inRg_iff, inRg_iff]
      constructor
      · rintro ⟨h2, -⟩
        by_cases hk : k < q.2
        · exact .inl ⟨h2, .inr hk⟩
        · exact .inr ⟨sle_trans hm hk, .inl h1⟩
      · rintro (h | h)
        · exact ⟨h.1, .inl rfl⟩
        · exact ⟨sle_trans hlo h.1, .inl rfl⟩
    · rename_i h1
      have hr := hr.resolve_left h1
      have hmx : ∀ k, k < maxS q.2 r.2 ↔ k < q.2 ∨ k < r.2 := fun k => by
        unfold maxS
        split
        · rename_i h2
          exact ⟨.inr, fun h => h.elim (fun h => slt_trans h (sless_iff.1 h2)) id⟩
        · rename_i h2
          exact ⟨.inl, fun h => h.elim id fun h => slt_le h (fun hc => h2 (sless_iff.2 hc))⟩
      have hne : maxS q.2 r.2 ≠ [] := by unfold maxS; split <;> assumption
      refine ⟨.inr ((hmx _).2 (.inl hq)), rfl, fun k => ?_⟩
      rw [Bool.eq_iff_iff, Bool.or_eq_true, inRg_iff, inRg_iff, inRg_iff]
      unfold InR
      dsimp only
      rw [hmx]
      constructor
      · rintro ⟨h2, h3 | h3 | h3⟩
        · exact absurd h3 hne
        · exact .inl ⟨h2, .inr h3⟩
        · by_cases hk : k < q.2
          · exact .inl ⟨h2, .inr hk⟩
          · exact .inr ⟨sle_trans hm hk, .inr h3⟩
      · rintro (⟨h2, h3⟩ | ⟨h2, h3⟩)
        · exact ⟨h2, .inr (.inl (h3.resolve_left h0))⟩
        · exact ⟨sle_trans hlo h2, .inr (.inr (h3.resolve_left h1))⟩
structure PlOk (out : List Rg) (done rest : List Rg) : Prop where
  plain : PlainR out
  has : ∀ k, hasRg out k = hasRg done k
  low : ∀ q, out.getLast? = some q → ∀ r ∈ rest, ¬ r.1 < q.1
theorem stepP_ok {out done rest : List Rg} {r : Rg} (h : PlOk out done (r :: rest)) (hr : ∀ x ∈ rest, ¬ x.1 < r.1) : PlOk (stepP out r) (done ++ [r]) rest := by
  have hh : ∀ o : List Rg, (∀ k, hasRg o k = (hasRg out k || inRg r k)) → ∀ k, hasRg o k = hasRg (done ++ [r]) k := fun o ho k => by rw [ho, has_app, has_one, h.has]
  unfold stepP
  split
  · rename_i he
    exact ⟨h.plain, hh _ fun k => by rw [empty_in he, Bool.or_false], fun q hq x hx => h.low q hq x (List.mem_cons_of_mem _ hx)⟩
  · rename_i he
    have hrk := emptyR_iff.1 (Bool.eq_false_iff.2 he)
    cases hq : out.getLast? with
    | none =>
      dsimp only
      have hn : out = [] := by cases out with | nil => rfl | cons a t => simp at hq
      subst hn
      refine ⟨plain_snoc.2 ⟨trivial, hrk, fun p hp => (by cases hp)⟩, hh _ fun k => by rw [has_app, has_one], fun q hq x hx => ?_⟩
      cases hq
      exact hr x hx
    | some q =>
      dsimp only
      obtain ⟨o, rfl⟩ : ∃ o, out = o ++ [q] := by
        have hne : out ≠ [] := by rintro rfl; cases hq
        refine ⟨out.dropLast, ?_⟩
        rw [List.getLast?_eq_some_getLast hne, Option.some.injEq] at hq
        rw [← hq, List.dropLast_concat_getLast]
      have hp := plain_snoc.1 h.plain
      have hlo : ¬ r.1 < q.1 := h.low q hq r List.mem_cons_self
      split
      · rename_i hc
        refine ⟨plain_snoc.2 ⟨h.plain, hrk, fun p hp => by rw [hq] at hp; cases hp; exact hc⟩, hh _ fun k => by rw [has_app, has_one], fun p hp x hx => ?_⟩
        rw [List.getLast?_concat] at hp; cases hp
        exact hr x hx
      · rename_i hc
        have hm : q.2 = [] ∨ ¬ q.2 < r.1 := by
          by_cases h0 : q.2 = []
          · exact .inl h0
          · exact .inr fun h1 => hc ⟨h0, h1⟩
        obtain ⟨j1, j2, j3⟩ := joinR_in hp.2.1 hrk hlo hm
        rw [List.dropLast_concat]
        refine ⟨plain_snoc.2 ⟨hp.1, j1, fun p hp' => by rw [j2]; exact hp.2.2 p hp'⟩, hh _ fun k => by rw [has_app, has_one, j3, has_app, has_one, Bool.or_assoc], fun p hp' x hx => ?_⟩
        rw [List.getLast?_concat] at hp'; cases hp'
        rw [j2]
        exact sle_trans hlo (hr x hx)
theorem plOk_init (l : List Rg) : PlOk [] [] l := ⟨trivial, fun _ => rfl, fun q hq => by cases hq⟩
theorem has_perm {a b : List Rg} (h : a.Perm b) (k : Str) : hasRg a k = hasRg b k := by
  unfold hasRg
  rw [Bool.eq_iff_iff, List.any_eq_true, List.any_eq_true]
  exact ⟨fun ⟨r, h1, h2⟩ => ⟨r, h.mem_iff.1 h1, h2⟩, fun ⟨r, h1, h2⟩ => ⟨r, h.mem_iff.2 h1, h2⟩⟩
theorem plain_made {out s l : List Rg} (hp : s.Perm l) (h : PlOk out s []) : out = madeR l [] 0 := by
  refine made_uniq h.plain fun k => ?_
  rw [h.has, has_perm hp, pK, if_neg (by decide), if_neg (by decide), has_nil, Bool.or_false]
def meetR (x y : Rg) : Rg := (maxS x.1 y.1, if x.2 = [] ∨ y.2 = [] then maxS x.2 y.2 else minS x.2 y.2)
def advR (x y : Rg) : Prop := ¬ x.2 = [] ∧ (y.2 = [] ∨ ¬ y.2 < x.2)
instance (x y : Rg) : Decidable (advR x y) := by unfold advR; infer_instance
def bothF : Nat → List Rg → List Rg → List Rg
  | 0, _, _ => []
  | _ + 1, [], _ => []
  | _ + 1, _ :: _, [] => []
  | n + 1, x :: a, y :: b => (if emptyR (meetR x y) = true then [] else [meetR x y]) ++ (if advR x y then bothF n a (y :: b) else bothF n (x :: a) b)
theorem maxS_le {a b k : Str} : ¬ k < maxS a b ↔ ¬ k < a ∧ ¬ k < b := by
  unfold maxS
  split
  · rename_i h
    have h := sless_iff.1 h
    exact ⟨fun h1 => ⟨fun hc => h1 (slt_trans hc h), h1⟩, fun h1 => h1.2⟩
  · rename_i h
    have h : ¬ a < b := fun hc => h (sless_iff.2 hc)
    exact ⟨fun h1 => ⟨h1, fun hc => h1 (slt_le hc h)⟩, fun h1 => h1.1⟩
theorem maxS_nil1 (b : Str) : maxS [] b = b := by
  unfold maxS
  split
  · rfl
  · rename_i h
    have h : ¬ [] < b := fun hc => h (sless_iff.2 hc)
    cases b with
    | nil => rfl
    | cons x b => exact absurd (List.nil_lt_cons x b) h
theorem maxS_nil2 (a : Str) : maxS a [] = a := by
  unfold maxS
  rw [if_neg fun h => slt_nil _ (sless_iff.1 h)]
theorem minS_lt {a b k : Str} : k < minS a b ↔ k < a ∧ k < b := by
  unfold minS
  split
  · rename_i h
    have h := sless_iff.1 h
    exact ⟨fun h1 => ⟨slt_trans h1 h, h1⟩, fun h1 => h1.2⟩
  · rename_i h
    have h : ¬ b < a := fun hc => h (sless_iff.2 hc)
    exact ⟨fun h1 => ⟨h1, slt_le h1 h⟩, fun h1 => h1.1⟩
theorem minS_ne {a b : Str} (ha : a ≠ []) (hb : b ≠ []) : minS a b ≠ [] := by unfold minS; split <;> assumption
theorem meetR_in (x y : Rg) (k : Str) : inRg (meetR x y) k = (inRg x k && inRg y k) := by
  rw [Bool.eq_iff_iff, Bool.and_eq_true, inRg_iff, inRg_iff, inRg_iff]
  unfold InR meetR
  dsimp only
  rw [maxS_le]
  by_cases hx : x.2 = []
  · rw [if_pos (.inl hx), hx, maxS_nil1]
    exact ⟨fun ⟨⟨h1, h2⟩, h3⟩ => ⟨⟨h1, .inl rfl⟩, h2, h3⟩, fun ⟨⟨h1, _⟩, h2, h3⟩ => ⟨⟨h1, h2⟩, h3⟩⟩
  · by_cases hy : y.2 = []
    · rw [if_pos (.inr hy), hy, maxS_nil2]
      exact ⟨fun ⟨⟨h1, h2⟩, h3⟩ => ⟨⟨h1, h3⟩, h2, .inl rfl⟩, fun ⟨⟨h1, h3⟩, h2, _⟩ => ⟨⟨h1, h2⟩, h3⟩⟩
    · rw [if_neg (fun h => h.elim hx hy), minS_lt]
      constructor
      · rintro ⟨⟨h1, h2⟩, h3⟩
        have h4 := h3.resolve_left (minS_ne hx hy)
        exact ⟨⟨h1, .inr h4.1⟩, h2, .inr h4.2⟩
      · rintro ⟨⟨h1, h3⟩, h2, h4⟩
        exact ⟨⟨h1, h2⟩, .inr ⟨h3.resolve_left hx, h4.resolve_left hy⟩⟩
theorem meetR_hi {x y : Rg} (h : advR x y) : (meetR x y).2 = x.2 := by
  unfold meetR
  dsimp only
  rcases h.2 with h1 | h1
  · rw [if_pos (.inr h1), h1, maxS_nil2]
  · by_cases hy : y.2 = []
    · rw [if_pos (.inr hy), hy, maxS_nil2]
    · rw [if_neg (fun h2 => h2.elim h.1 hy)]
      unfold minS
      rw [if_neg fun hc => h1 (sless_iff.1 hc)]
theorem meetR_hi2 {x y : Rg} (h : ¬ advR x y) : (meetR x y).2 = y.2 := by
  unfold meetR advR at *
  dsimp only
  by_cases hx : x.2 = []
  · rw [if_pos (.inl hx), hx, maxS_nil1]
  · have h1 : ¬ y.2 = [] ∧ y.2 < x.2 := ⟨fun hc => h ⟨hx, .inl hc⟩, Classical.byContradiction fun hc => h ⟨hx, .inr hc⟩⟩
    rw [if_neg (fun h2 => h2.elim hx h1.1)]
    unfold minS
    rw [if_pos (sless_iff.2 h1.2)]
theorem bothF_ok : ∀ {n : Nat} {a b : List Rg}, a.length + b.length ≤ n → PlainR a → PlainR b → PlainR (bothF n a b) ∧ ∀ k, hasRg (bothF n a b) k = (hasRg a k && hasRg b k)
  | 0, a, b, hn, _, _ => by
    obtain rfl : a = [] := List.eq_nil_of_length_eq_zero (by omega)
    exact ⟨trivial, fun k => rfl⟩
  | n + 1, [], b, _, _, _ => ⟨trivial, fun k => rfl⟩
  | n + 1, x :: a, [], _, _, _ => ⟨trivial, fun k => by rw [has_nil, Bool.and_false]; rfl⟩
  | n + 1, x :: a, y :: b, hn, ha, hb => by
    simp only [List.length_cons] at hn
    rw [bothF]
    -- the rest
    obtain ⟨R, hR, hp, hk, hlow⟩ : ∃ R, (if advR x y then bothF n a (y :: b) else bothF n (x :: a) b) = R ∧ PlainR R ∧ (∀ k, (inRg (meetR x y) k || hasRg R k) = (hasRg (x :: a) k && hasRg (y :: b) k)) ∧ ∀ q, R.head? = some q → (meetR x y).2 ≠ [] ∧ (meetR x y).2 < q.1 := by
      refine ⟨_, rfl, ?_⟩
      by_cases hadv : advR x y
      · rw [if_pos hadv]
        obtain ⟨h1, h2⟩ := bothF_ok (n := n) (a := a) (b := y :: b) (by simp only [List.length_cons]; omega) ha.2.2 hb
        refine ⟨h1, fun k => ?_, fun q hq => ?_⟩
        · rw [h2, meetR_in, has_cons x a, has_cons y b]
          have : inRg x k = true → hasRg b k = false := fun hx => Bool.eq_false_iff.2 fun hc => by
            obtain ⟨h3, h4⟩ := plain_has hb hc
            have h5 := (inRg_iff.1 hx).2.resolve_left hadv.1
            rcases hadv.2 with h6 | h6
            · exact h3 h6
            · exact h6 (slt_trans h4 h5)
          cases hx : inRg x k
          · simp
          · rw [this hx]; cases inRg y k <;> simp
        · rw [meetR_hi hadv]
          cases hR : bothF n a (y :: b) with
          | nil => rw [hR] at hq; cases hq
          | cons q' t =>
            rw [hR] at hq h1 h2
            cases hq
            have h3 := h2 q.1
            rw [plain_first h1] at h3
            have h4 : hasRg a q.1 = true := by
              cases h5 : hasRg a q.1
              · rw [h5] at h3; cases h3
              · rfl
            exact plain_has ha h4
      · rw [if_neg hadv]
        obtain ⟨h1, h2⟩ := bothF_ok (n := n) (a := x :: a) (b := b) (by simp only [List.length_cons]; omega) ha hb.2.2
        refine ⟨h1, fun k => ?_, fun q hq => ?_⟩
        · rw [h2, meetR_in, has_cons x a, has_cons y b]
          have : inRg y k = true → hasRg a k = false := fun hy => Bool.eq_false_iff.2 fun hc => by
            obtain ⟨h3, h4⟩ := plain_has ha hc
            rcases (inRg_iff.1 hy).2 with h5 | h5
            · exact hadv ⟨h3, .inl h5⟩
            · exact hadv ⟨h3, .inr (slt_asymm (slt_trans h4 h5))⟩
          cases hy : inRg y k
          · simp
          · rw [this hy]; cases inRg x k <;> simp
        · rw [meetR_hi2 hadv]
          cases hR : bothF n (x :: a) b with
          | nil => rw [hR] at hq; cases hq
          | cons q' t =>
            rw [hR] at hq h1 h2
            cases hq
            have h3 := h2 q.1
            rw [plain_first h1] at h3
            have h4 : hasRg b q.1 = true := by
              cases h5 : hasRg b q.1
              · rw [h5, Bool.and_false] at h3; cases h3
              · rfl
            exact plain_has hb h4
    rw [hR]
    by_cases he : emptyR (meetR x y) = true
    · rw [if_pos he]
      refine ⟨hp, fun k => ?_⟩
      rw [← hk, empty_in he, Bool.false_or]; rfl
    · rw [if_neg he]
      exact ⟨⟨emptyR_iff.1 (Bool.eq_false_iff.2 he), hlow, hp⟩, fun k => by rw [← hk]; rfl⟩
def turnF : Str → List Rg → List Rg
  | from', [] => [(from', [])]
  | from', r :: t => (if ¬ r.1 = [] ∧ emptyR (from', r.1) = false then [(from', r.1)] else []) ++ (if r.2 = [] then [] else turnF r.2 t)
theorem turnF_ok : ∀ {l : List Rg} {f : Str}, PlainR l → (∀ q, l.head? = some q → f = [] ∨ f < q.1) → PlainR (turnF f l) ∧ (∀ q, (turnF f l).head? = some q → ¬ q.1 < f) ∧ ∀ k, hasRg (turnF f l) k = (!sless k f && !hasRg l k)
  | [], f, _, _ => by
    refine ⟨⟨.inl rfl, fun q hq => (by cases hq), trivial⟩, fun q hq => (by cases hq; exact slt_irrefl _), fun k => ?_⟩
    show hasRg [(f, [])] k = _
    rw [has_one, has_nil]
    unfold inRg
    simp
  | r :: t, f, hp, hf => by
    have hfr := hf r rfl
    rw [turnF]
    -- behind this range
    obtain ⟨R, hR, h1, h2, h3⟩ : ∃ R, (if r.2 = [] then [] else turnF r.2 t) = R ∧ PlainR R ∧ (∀ q, R.head? = some q → r.1 < q.1) ∧ ∀ k, hasRg R k = (!sless k r.1 && !hasRg (r :: t) k) := by
      refine ⟨_, rfl, ?_⟩
      split
      · rename_i h0
        refine ⟨trivial, fun q hq => (by cases hq), fun k => ?_⟩
        rw [has_nil, has_cons]
        cases hk : sless k r.1
        · have : inRg r k = true := by unfold inRg; rw [hk, h0]; rfl
          rw [this]; rfl
        · rfl
      · rename_i h0
        have hlt : r.1 < r.2 := hp.1.resolve_left h0
        obtain ⟨q1, q2, q3⟩ := turnF_ok (l := t) (f := r.2) hp.2.2 fun q hq => .inr (hp.2.1 q hq).2
        refine ⟨q1, fun q hq => slt_le hlt (q2 q hq), fun k => ?_⟩
        rw [q3, has_cons]
        have e : inRg r k = (!sless k r.1 && sless k r.2) := by
          unfold inRg
          rw [show (r.2 == []) = false from by simpa using h0, Bool.false_or]
        rw [e]
        have hm : sless k r.1 = true → sless k r.2 = true := fun h => sless_iff.2 (slt_trans (sless_iff.1 h) hlt)
        have hn : sless k r.1 = true → hasRg t k = true → False := fun h h' => by
          have := (plain_has hp h').2
          exact slt_asymm this (slt_trans (sless_iff.1 h) hlt)
        cases ha : sless k r.1 <;> cases hb : sless k r.2 <;> cases hc : hasRg t k <;> simp_all
    rw [hR]
    by_cases hc : ¬ r.1 = [] ∧ emptyR (f, r.1) = false
    · rw [if_pos hc]
      have hlt : f < r.1 := (emptyR_iff.1 hc.2).resolve_left hc.1
      refine ⟨⟨.inr hlt, fun q hq => ⟨hc.1, h2 q hq⟩, h1⟩, fun q hq => (by cases hq; exact slt_irrefl _), fun k => ?_⟩
      show hasRg ((f, r.1) :: R) k = _
      rw [has_cons, h3]
      have e : inRg (f, r.1) k = (!sless k f && sless k r.1) := by
        unfold inRg
        dsimp only
        rw [show (r.1 == []) = false from by simpa using hc.1, Bool.false_or]
      rw [e]
      have hm : sless k f = true → sless k r.1 = true := fun h => sless_iff.2 (slt_trans (sless_iff.1 h) hlt)
      have hn : sless k r.1 = true → hasRg (r :: t) k = true → False := fun h h' => plain_lo hp h' (sless_iff.1 h)
      cases ha : sless k f <;> cases hb : sless k r.1 <;> cases hd : hasRg (r :: t) k <;> simp_all
    · rw [if_neg hc]
      have hle : ¬ f < r.1 := fun h => hc ⟨fun h0 => slt_nil _ (by rw [h0] at h; exact h), emptyR_iff.2 (.inr h)⟩
      have hfe : f = [] := hfr.resolve_right hle
      have hre : r.1 = [] := by
        cases h : r.1 with
        | nil => rfl
        | cons x s => rw [h, hfe] at hle; exact absurd (List.nil_lt_cons x s) hle
      refine ⟨h1, fun q hq => by rw [hfe]; exact slt_nil _, fun k => ?_⟩
      show hasRg R k = _
      rw [h3, hfe, hre]
theorem both_made {a b pa pb : List Rg} (ha : PlainR pa) (hb : PlainR pb) (hha : ∀ k, hasRg pa k = hasRg a k) (hhb : ∀ k, hasRg pb k = hasRg b k) {n : Nat} (hn : pa.length + pb.length ≤ n) : bothF n pa pb = madeR a b 1 := by
  obtain ⟨h3, h4⟩ := bothF_ok hn ha hb
  refine made_uniq h3 fun k => ?_
  rw [h4, hha, hhb, pK, if_pos rfl]
end Go.Proofs.Ytbobjiaggngbmaa

set_option linter.unusedVariables false
set_option linter.unusedSimpArgs false
namespace Go.Proofs.Ytbobjiaggngbmaa
open Go.Eng
abbrev BT : Ty := .slice (.int .u8)
theorem pXIndexByte : XOk Try.prog 97 xIndexByte := xIndexByte_ok Try.func97 (by kernel_rfl) (by kernel_rfl) (by kernel_rfl) (by kernel_rfl)
def sBClone : PSpec := ⟨[.d BT], [⟨false, [.d BT]⟩], fun x => x.1.length ≤ 1000000, fun x => ((x.1, ()), ())⟩
theorem fBClone : FnOk Try.prog 73 := ⟨_, Try.func73, by decide, rfl⟩
theorem pBClone : PSound Try.prog 73 sBClone := by
  refine psound (T := tab) (S := (spOf [])) (keep := k73) (by kernel_rfl) tabOk spNil (by kernel_rfl) Try.func73 (by kernel_rfl) (by decide) fun xs hg hp => ?_
  obtain ⟨xs, ⟨⟩⟩ := xs
  obtain ⟨⟨hl, -⟩, -⟩ := hg
  change List Int at xs
  clear hl
  change xs.length ≤ 1000000 at hp
  show vfun tab _ k73 Try.f73 [.sl (.int .u8) xs] [] _
  refine Ev.out ?_
  repeat' (first | ((with_reducible refine Ev.mk ?_); conv => whnf) | (with_reducible refine And.intro ?_ ?_) | (intro h))
  all_goals (try simp only [decide_eq_true_eq, decide_eq_false_iff_not, beq_iff_eq, bne_iff_ne, beq_eq_false_iff_ne, bne_eq_false_iff_eq, Int.toNat_natCast, ge_iff_le, gt_iff_lt, Bool.not_eq_true', Bool.not_eq_false', Int.not_lt, Int.not_le, ne_eq] at *)
  all_goals (try dsimp only [Ty.den, Ty.dflt, BT] at *)
  all_goals (try simp only [eq4, ne4, eq3, ne3, eq2, ne2, Prod.eta, List.length_cons, List.length_nil, List.length_append, Nat.zero_add] at *)
  all_goals (try simp (disch := omega) only [wrap64] at *)
  all_goals try first | exact leafDraw (by kernel_rfl) | exact Leaf.mk trivial | (refine Leaf.mk ?_; omega) | (refine Leaf.mk ?_; unfold maxLen; omega)
  · refine Leaf.mk (ret1 (show ([] : List Int) = xs from ?_))
    exact (List.eq_nil_of_length_eq_zero h).symm
  · exact Leaf.mk (ret1 rfl)
def sIndexByte : PSpec := ⟨[.d BT, .d (.int .u8)], [⟨false, [.d (.int .i64)]⟩], fun _ => True, fun x => ((Lib.indexByte (strOfBytes x.1) x.2.1.toNat.toUInt8, ()), ())⟩
theorem fIndexByte : FnOk Try.prog 85 := ⟨_, Try.func85, by decide, rfl⟩
theorem pIndexByte : PSound Try.prog 85 sIndexByte := by
  refine psound (T := tab) (S := (spOf [(97, xIndexByte)])) (keep := k85) (by kernel_rfl) tabOk (spCons (.inr pXIndexByte) spNil) (by kernel_rfl) Try.func85 (by kernel_rfl) (by decide) fun xs hg hp => ?_
  obtain ⟨xs, c, ⟨⟩⟩ := xs
  show vfun tab _ k85 Try.f85 [.sl (.int .u8) xs, .i .u8 c] [] _
  refine Ev.out ?_
  repeat' (first | ((with_reducible refine Ev.mk ?_); conv => whnf) | (with_reducible refine And.intro ?_ ?_) | (intro h))
  exact Leaf.mk rfl
def escI (c : Int) : List Int := if c = 0 then [0, 255] else [c]
def putB (xs : List Int) : List Int := xs.flatMap escI ++ [0, 1]
def putText (s : List UInt8) : List Int := putB (bytesOfStr s)
theorem escI_len (xs : List Int) : (xs.flatMap escI).length ≤ 2 * xs.length := by
  induction xs with
  | nil => simp
  | cons x r ih =>
    simp only [List.flatMap_cons, List.length_append, List.length_cons]
    have : (escI x).length ≤ 2 := by unfold escI; split <;> simp
    omega
def sPutText : PSpec := ⟨[.d .str], [⟨false, [.o 5 (.int .u8)]⟩], fun x => x.1.length ≤ 100000, fun x => ((putText x.1, ()), ())⟩
theorem fPutText : FnOk Try.prog 47 := ⟨_, Try.func47, by decide, rfl⟩
theorem pPutText : PSound Try.prog 47 sPutText := by
  refine psound (T := tab) (S := (spOf [])) (keep := k47) (by kernel_rfl) tabOk spNil (by kernel_rfl) Try.func47 (by kernel_rfl) (by decide) fun xs hg hp => ?_
  obtain ⟨s, ⟨⟩⟩ := xs
  change List UInt8 at s
  change s.length ≤ 100000 at hp
  have hb : (bytesOfStr s).length = s.length := by simp [bytesOfStr]
  have hpt : putText s = putB (bytesOfStr s) := rfl
  show vfun tab _ k47 Try.f47 [.s s] [] _
  refine Ev.out ?_
  repeat' (first | ((with_reducible refine Ev.mk ?_); conv => whnf) | (with_reducible refine And.intro ?_ ?_) | (intro h))
  all_goals (try simp only [decide_eq_true_eq, decide_eq_false_iff_not, beq_iff_eq, bne_iff_ne, beq_eq_false_iff_ne, bne_eq_false_iff_eq, Int.toNat_natCast, ge_iff_le, gt_iff_lt, Bool.not_eq_true', Bool.not_eq_false', Int.not_lt, Int.not_le, ne_eq] at *)
  all_goals (try dsimp only [Ty.den, Ty.dflt, BT] at *)
  all_goals (try simp only [eq4, ne4, eq3, ne3, eq2, ne2, Prod.eta, List.length_cons, List.length_nil, List.length_append, Nat.zero_add] at *)
  all_goals (try simp (disch := omega) only [wrap64] at *)
  all_goals try first | exact leafDraw (by kernel_rfl) | exact Leaf.mk trivial | (refine Leaf.mk ?_; omega) | (refine Leaf.mk ?_; unfold maxLen; omega)
  refine LoopVC.weak [(.slot 3, .nil 5 (.int .u8))] (fun i : Nat => [(9, .i .i64 i)]) (fun i => [(0, .arr 5 (.int .u8) (((bytesOfStr s).take i).flatMap escI))]) (fun i => i ≤ (bytesOfStr s).length) (fun i => (bytesOfStr s).length - i) 0 (Ev.mk ?_)
  (conv => whnf)
  refine ⟨Leaf.mk rfl, Leaf.mk ?_, ?_⟩
  · omega
  intro i hi
  have hc := escI_len ((bytesOfStr s).take i)
  rw [List.length_take] at hc
  repeat' (first | ((with_reducible refine Ev.mk ?_); conv => whnf) | (with_reducible refine And.intro ?_ ?_) | (intro h))
  all_goals (try simp only [decide_eq_true_eq, decide_eq_false_iff_not, beq_iff_eq, bne_iff_ne, beq_eq_false_iff_ne, bne_eq_false_iff_eq, Int.toNat_natCast, ge_iff_le, gt_iff_lt, Bool.not_eq_true', Bool.not_eq_false', Int.not_lt, Int.not_le, ne_eq] at *)
  all_goals (try dsimp only [Ty.den, Ty.dflt, BT] at *)
  all_goals (try simp only [eq4, ne4, eq3, ne3, eq2, ne2, Prod.eta, List.length_cons, List.length_nil, List.length_append, Nat.zero_add] at *)
  all_goals (try simp (disch := omega) only [wrap64] at *)
  all_goals try first | exact leafDraw (by kernel_rfl) | exact Leaf.mk trivial | (refine Leaf.mk ?_; omega) | (refine Leaf.mk ?_; unfold maxLen; omega)
  all_goals first
    | (rw [take_all (by omega)]; exact Leaf.mk (ret1 rfl))
    | (refine Leaf.mk ⟨i + 1, ?_, by omega, by omega⟩
       rw [flatMap_at 0 (by omega)]
       first
       | (rw [show escI ((bytesOfStr s).getD i 0) = [0, 255] from if_pos (by assumption)]; have h7 : (bytesOfStr s).getD i 0 = 0 := by assumption
          rw [h7]; simp only [List.append_assoc, List.cons_append, List.nil_append]; rfl)
       | (rw [show escI ((bytesOfStr s).getD i 0) = [(bytesOfStr s).getD i 0] from if_neg (by assumption)]; rfl))
def numB (xs : List Int) : Int := xs.foldl (fun n c => (n * 256 + c) % 18446744073709551616) 0
theorem numB_bd (xs : List Int) : 0 ≤ numB xs ∧ numB xs ≤ 18446744073709551615 := by
  have : ∀ (l : List Int) (n : Int), 0 ≤ n ∧ n ≤ 18446744073709551615 → 0 ≤ l.foldl (fun n c => (n * 256 + c) % 18446744073709551616) n ∧ l.foldl (fun n c => (n * 256 + c) % 18446744073709551616) n ≤ 18446744073709551615 := by
    intro l
    induction l with
    | nil => intro n h; exact h
    | cons x r ih => intro n h; refine ih _ ?_; dsimp only; omega
  exact this xs 0 (by omega)
theorem numB_at {xs : List Int} {i : Nat} (h : i < xs.length) : numB (xs.take (i + 1)) = (numB (xs.take i) * 256 + xs.getD i 0) % 18446744073709551616 := by
  unfold numB; rw [foldl_at 0 h]
theorem byte_at {xs : List Int} (hx : ∀ x ∈ xs, Eng.Good (.int .u8) x) {i : Nat} (h : i < xs.length) : 0 ≤ xs.getD i 0 ∧ xs.getD i 0 ≤ 255 := bdu8 (good_at (e := .int .u8) hx h 0)
def sNumber : PSpec := ⟨[.d BT], [⟨false, [.d (.int .u64)]⟩], fun _ => True, fun x => ((numB x.1, ()), ())⟩
theorem fNumber : FnOk Try.prog 84 := ⟨_, Try.func84, by decide, rfl⟩
theorem pNumber : PSound Try.prog 84 sNumber := by
  refine psound (T := tab) (S := (spOf [])) (keep := k84) (by kernel_rfl) tabOk spNil (by kernel_rfl) Try.func84 (by kernel_rfl) (by decide) fun xs hg hp => ?_
  obtain ⟨xs, ⟨⟩⟩ := xs
  obtain ⟨⟨hl, hx⟩, -⟩ := hg
  change List Int at xs
  have hl := len63 hl
  change xs.length ≤ _ at hl
  change ∀ x ∈ xs, Eng.Good (.int .u8) x at hx
  clear hp
  show vfun tab _ k84 Try.f84 [.sl (.int .u8) xs] [] _
  refine Ev.out ?_
  repeat' (first | ((with_reducible refine Ev.mk ?_); conv => whnf) | (with_reducible refine And.intro ?_ ?_) | (intro h))
  refine LoopVC.on (fun i : Nat => [(3, .i .u64 (numB (xs.take i))), (8, .i .i64 i)]) (fun _ => []) (fun i => i ≤ xs.length) (fun i => xs.length - i) 0 rfl (by omega) ?_
  intro i hi
  repeat' (first | ((with_reducible refine Ev.mk ?_); conv => whnf) | (with_reducible refine And.intro ?_ ?_) | (intro h))
  all_goals (try simp only [decide_eq_true_eq, decide_eq_false_iff_not, beq_iff_eq, bne_iff_ne, beq_eq_false_iff_ne, bne_eq_false_iff_eq, Int.toNat_natCast, ge_iff_le, gt_iff_lt, Bool.not_eq_true', Bool.not_eq_false', Int.not_lt, Int.not_le, ne_eq] at *)
  all_goals (try dsimp only [Ty.den, Ty.dflt, BT] at *)
  all_goals (try simp only [eq4, ne4, eq3, ne3, eq2, ne2, Prod.eta, List.length_cons, List.length_nil, List.length_append, Nat.zero_add] at *)
  all_goals (try simp (disch := omega) only [wrap64] at *)
  all_goals try first | exact leafDraw (by kernel_rfl) | exact Leaf.mk trivial | (refine Leaf.mk ?_; omega) | (refine Leaf.mk ?_; unfold maxLen; omega)
  · refine Leaf.mk ⟨i + 1, ?_, by omega, by omega⟩
    have hb := byte_at hx (i := i) (by omega)
    rw [numB_at (by omega), ← or_byte hb]; rfl
  · rw [take_all (by omega)]; exact Leaf.mk (ret1 rfl)
def layB : Int → Nat → List Int
  | _, 0 => []
  | n, k + 1 => layB (n / 256) k ++ [n % 256]
theorem layB_len : ∀ (k : Nat) (n : Int), (layB n k).length = k
  | 0, n => rfl
  | k + 1, n => by simp [layB, layB_len k]
theorem layB_top : ∀ (k : Nat) (n : Int), layB n (k + 1) = (n / 256 ^ k % 256) :: layB n k
  | 0, n => by simp [layB]
  | k + 1, n => by
    rw [layB, layB_top k (n / 256), layB]
    simp only [List.cons_append]
    rw [Int.ediv_ediv_of_nonneg (by decide), Int.pow_succ, Int.mul_comm]
def sLay : PSpec := ⟨[.d (.int .u64), .d (.int .i64)], [⟨false, [.d BT]⟩], fun x => 0 ≤ x.2.1 ∧ x.2.1 ≤ 8, fun x => ((layB x.1 x.2.1.toNat, ()), ())⟩
theorem fLay : FnOk Try.prog 70 := ⟨_, Try.func70, by decide, rfl⟩
theorem pLay : PSound Try.prog 70 sLay := by
  refine psound (T := tab) (S := (spOf [])) (keep := k70) (by kernel_rfl) tabOk spNil (by kernel_rfl) Try.func70 (by kernel_rfl) (by decide) fun xs hg hp => ?_
  obtain ⟨n, k, ⟨⟩⟩ := xs
  obtain ⟨hn, -⟩ := hg
  change Int at n
  change Int at k
  have hn := bdu64 hn
  change 0 ≤ n ∧ n ≤ _ at hn
  change 0 ≤ k ∧ k ≤ 8 at hp
  show vfun tab _ k70 Try.f70 [.i .u64 n, .i .i64 k] [] _
  refine Ev.out ?_
  repeat' (first | ((with_reducible refine Ev.mk ?_); conv => whnf) | (with_reducible refine And.intro ?_ ?_) | (intro h))
  all_goals (try simp only [decide_eq_true_eq, decide_eq_false_iff_not, beq_iff_eq, bne_iff_ne, beq_eq_false_iff_ne, bne_eq_false_iff_eq, Int.toNat_natCast, ge_iff_le, gt_iff_lt, Bool.not_eq_true', Bool.not_eq_false', Int.not_lt, Int.not_le, ne_eq] at *)
  all_goals (try dsimp only [Ty.den, Ty.dflt, BT] at *)
  all_goals (try simp only [eq4, ne4, eq3, ne3, eq2, ne2, Prod.eta, List.length_cons, List.length_nil, List.length_append, Nat.zero_add] at *)
  all_goals (try simp (disch := omega) only [wrap64] at *)
  all_goals try first | exact leafDraw (by kernel_rfl) | exact Leaf.mk trivial | (refine Leaf.mk ?_; omega) | (refine Leaf.mk ?_; unfold maxLen; omega)
  refine LoopVC.on (fun i : Nat => [(10, .i .i64 i)]) (fun i => [(0, .arr 5 (.int .u8) (List.replicate (k.toNat - i) 0 ++ layB n i))]) (fun i => (i : Int) ≤ k) (fun i => k.toNat - i) 0 ?_ (by simp; omega) ?_
  · simp only [layB, List.append_nil, Nat.sub_zero]; rfl
  intro i hi
  repeat' (first | ((with_reducible refine Ev.mk ?_); conv => whnf) | (with_reducible refine And.intro ?_ ?_) | (intro h))
  all_goals (try simp only [decide_eq_true_eq, decide_eq_false_iff_not, beq_iff_eq, bne_iff_ne, beq_eq_false_iff_ne, bne_eq_false_iff_eq, Int.toNat_natCast, ge_iff_le, gt_iff_lt, Bool.not_eq_true', Bool.not_eq_false', Int.not_lt, Int.not_le, ne_eq] at *)
  all_goals (try dsimp only [Ty.den, Ty.dflt, BT] at *)
  all_goals (try simp only [eq4, ne4, eq3, ne3, eq2, ne2, Prod.eta, List.length_cons, List.length_nil, List.length_append, Nat.zero_add] at *)
  all_goals (try simp (disch := omega) only [wrap64] at *)
  all_goals try first | exact leafDraw (by kernel_rfl) | exact Leaf.mk trivial | (refine Leaf.mk ?_; omega) | (refine Leaf.mk ?_; unfold maxLen; omega)
  all_goals (try simp only [List.length_replicate, layB_len])
  all_goals try (refine Leaf.mk ?_; omega)
  · refine Leaf.mk ?_
    rw [shr8 n (by omega)]
    have := div256_bd hn i
    simp only [inK, Bool.and_eq_true, decide_eq_true_eq]; exact this
  · refine Leaf.mk ⟨i + 1, ?_, by omega, by omega⟩
    rw [shr8 n (by omega), wrapU8, layB_top]
    obtain ⟨m, hm⟩ : ∃ m, k.toNat - i = m + 1 := ⟨k.toNat - i - 1, by omega⟩
    rw [hm, show k.toNat - (i + 1) = m by omega, show (k - 1 - (i : Int)).toNat = m by omega]
    rw [show List.replicate (m + 1) (0 : Int) = List.replicate m 0 ++ [0] from List.replicate_succ', List.append_assoc, List.set_append_right _ _ (by simp)]
    simp only [List.length_replicate, Nat.sub_self, List.cons_append, List.nil_append, List.set_cons_zero]
    rfl
  · refine Leaf.mk (ret1 (show _ = layB n k.toNat from ?_))
    rw [show k.toNat - i = 0 by omega, show i = k.toNat by omega]; simp
def widthN : Nat → Int → Nat
  | 0, _ => 0
  | f + 1, n => if 0 < n then widthN f (n / 256) + 1 else 0
theorem widthN_le : ∀ (f : Nat) (n : Int), widthN f n ≤ f
  | 0, _ => Nat.le_refl _
  | f + 1, n => by unfold widthN; split; have := widthN_le f (n / 256); omega; omega
def sWidth : PSpec := ⟨[.d (.int .u64)], [⟨false, [.d (.int .i64)]⟩], fun _ => True, fun x => (((widthN 8 x.1 : Nat), ()), ())⟩
theorem fWidth : FnOk Try.prog 69 := ⟨_, Try.func69, by decide, rfl⟩
theorem pWidth : PSound Try.prog 69 sWidth := by
  refine psound (T := tab) (S := (spOf [])) (keep := k69) (by kernel_rfl) tabOk spNil (by kernel_rfl) Try.func69 (by kernel_rfl) (by decide) fun xs hg hp => ?_
  obtain ⟨n, ⟨⟩⟩ := xs
  obtain ⟨hn, -⟩ := hg
  change Int at n
  have hn := bdu64 hn
  change 0 ≤ n ∧ n ≤ _ at hn
  clear hp
  show vfun tab _ k69 Try.f69 [.i .u64 n] [] _
  refine Ev.out ?_
  repeat' (first | ((with_reducible refine Ev.mk ?_); conv => whnf) | (with_reducible refine And.intro ?_ ?_) | (intro h))
  refine LoopVC.on (fun a : Nat × Int => [(0, .i .u64 a.2), (3, .i .i64 a.1)]) (fun _ => []) (fun a => a.1 ≤ 8 ∧ (0 ≤ a.2 ∧ a.2 ≤ 18446744073709551615) ∧ a.2 < 256 ^ (8 - a.1) ∧ widthN 8 n = a.1 + widthN (8 - a.1) a.2) (fun a => 8 - a.1) (0, n) rfl ?_ ?_
  · refine ⟨by omega, hn, ?_, by simp⟩
    show n < 256 ^ 8
    omega
  intro ⟨k, m⟩ ⟨h1, h2, h3, h4⟩
  dsimp only at h1 h2 h3 h4
  repeat' (first | ((with_reducible refine Ev.mk ?_); conv => whnf) | (with_reducible refine And.intro ?_ ?_) | (intro h))
  all_goals (try simp only [decide_eq_true_eq, decide_eq_false_iff_not, beq_iff_eq, bne_iff_ne, beq_eq_false_iff_ne, bne_eq_false_iff_eq, Int.toNat_natCast, ge_iff_le, gt_iff_lt, Bool.not_eq_true', Bool.not_eq_false', Int.not_lt, Int.not_le, ne_eq] at *)
  all_goals (try dsimp only [Ty.den, Ty.dflt, BT] at *)
  all_goals (try simp only [eq4, ne4, eq3, ne3, eq2, ne2, Prod.eta, List.length_cons, List.length_nil, List.length_append, Nat.zero_add] at *)
  all_goals (try simp (disch := omega) only [wrap64] at *)
  all_goals try first | exact leafDraw (by kernel_rfl) | exact Leaf.mk trivial | (refine Leaf.mk ?_; omega) | (refine Leaf.mk ?_; unfold maxLen; omega)
  all_goals (try rw [shrB])
  · refine Leaf.mk ?_
    simp only [inK, Bool.and_eq_true, decide_eq_true_eq]; omega
  · obtain ⟨j, hj⟩ : ∃ j, 8 - k = j + 1 := by
      refine ⟨8 - k - 1, ?_⟩
      rcases Nat.lt_or_ge k 8 with h8 | h8
      · omega
      · rw [show 8 - k = 0 by omega] at h3
        simp only [Int.pow_zero] at h3
        omega
    rw [hj] at h3 h4
    refine Leaf.mk ⟨(k + 1, m / 256), rfl, ⟨by omega, by dsimp only; omega, ?_, ?_⟩, by dsimp only; omega⟩
    · dsimp only
      rw [show 8 - (k + 1) = j by omega]
      rw [Int.pow_succ] at h3
      exact Int.ediv_lt_of_lt_mul (by decide) h3
    · dsimp only
      rw [h4, widthN, if_pos h, show 8 - (k + 1) = j by omega]; omega
  · refine Leaf.mk (ret1 (show (k : Int) = (widthN 8 n : Nat) from ?_))
    have : m = 0 := by omega
    subst this
    have h0 : ∀ f, widthN f 0 = 0 := fun f => by cases f <;> simp [widthN]
    rw [h4, h0]; rfl
end Go.Proofs.Ytbobjiaggngbmaa
