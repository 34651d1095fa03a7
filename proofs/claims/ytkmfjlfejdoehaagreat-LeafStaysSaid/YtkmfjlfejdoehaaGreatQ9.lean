import Derived.Test.YtkmfjlfejdoehaaGreatTab
import Derived.Test.YtkmfjlfejdoehaaGreatEng4
import Derived.Test.YtkmfjlfejdoehaaGreatEng5
import Derived.Test.YtkmfjlfejdoehaaGreatQ8
import Derived.Test.YtkmfjlfejdoehaaGreatQ7
/- Texts, one behind the other. -/
set_option linter.unusedVariables false
set_option linter.unusedSimpArgs false
set_option maxRecDepth 8000
set_option maxHeartbeats 4000000
namespace Go.Proofs.YtkmfjlfejdoehaaGreat
open Go.Eng
theorem fSort : FnOk Tryz.prog 142 := ⟨_, Tryz.func142, by decide, rfl⟩
noncomputable def iSort : Eng.Spec := sortSpec .str sortStr
theorem pSort : SpecOk Tryz.prog 142 iSort := sortStr_ok lays190 rfl
def sCompact : OSpec := ⟨9, .str, [], fun xs _ => xs.length ≤ 1000000, fun xs _ => compL (α := List UInt8) xs⟩
theorem fCompact : FnOk Tryz.prog 143 := ⟨_, Tryz.func143, by decide, rfl⟩
theorem pCompact : SpecOk Tryz.prog 143 sCompact.spec := by
  refine oOk (T := tab) (S := (spOf [])) (keep := k143) (by kernel_rfl) tabOk spNil (by kernel_rfl) Tryz.func143 (by kernel_rfl) (by decide) (by decide) fun xs ys k hg hgt hmax hp => ?_
  obtain ⟨⟩ := ys
  change List (List UInt8) at xs
  change xs.length ≤ 1000000 at hp
  clear hg hgt
  show vfun tab _ k143 Tryz.f143 [.vw 0 .str 0 xs.length true] [(0, .raw 9 .str (xs.map some ++ List.replicate k (none : Option (Ty.den .str))))] _
  refine Ev.out ?_
  repeat' (first | ((with_reducible refine Ev.mk ?_); conv => whnf) | (with_reducible refine And.intro ?_ ?_) | (intro h))
  all_goals (try simp only [decide_eq_true_eq, decide_eq_false_iff_not, beq_iff_eq, bne_iff_ne, beq_eq_false_iff_ne, bne_eq_false_iff_eq, Int.toNat_natCast, ge_iff_le, gt_iff_lt, Bool.not_eq_true', Bool.not_eq_false', Int.not_lt, Int.not_le, ne_eq] at *)
  all_goals (try dsimp only [Ty.den, Ty.dflt, .str] at *)
  all_goals (try simp only [eq4, ne4, eq3, ne3, eq2, ne2, Prod.eta, List.length_cons, List.length_nil, List.length_append, Nat.zero_add] at *)
  all_goals (try simp (disch := omega) only [wrap64] at *)
  all_goals (try simp only [Int.sub_zero, Int.toNat_natCast, Int.toNat_sub, Int.toNat_zero, Nat.zero_add, toNat_add', toNat_addsub, toNat_subadd, List.length_map, List.length_append, List.length_replicate, List.length_take, List.length_drop] at *)
  · refine Leaf.mk (readO_vw.trans (congrArg some (?_ : _ = (compL xs).map some)))
    rw [compL_short (by omega)]
    refine (raw_take (Nat.le_refl _)).trans ?_
    rw [take_all (Nat.le_refl _)]
  have hrg : ∀ i, i < xs.length → (xs.map some ++ List.replicate k none).getD i none = some (xs.getD i []) := fun i h => raw_getD [] h
  refine LoopVC.on (fun n : Nat => [(3, .i .i64 n)]) (fun _ => []) (fun n => 1 ≤ n ∧ n ≤ xs.length ∧ compL (xs.take n) = xs.take n) (fun n => xs.length - n) 1 rfl ⟨by omega, by omega, compL_short (by rw [List.length_take]; omega)⟩ ?_
  intro n ⟨hn1, hn, he⟩
  repeat' (first | ((with_reducible refine Ev.mk ?_); conv => whnf) | (with_reducible refine And.intro ?_ ?_) | (intro h))
  all_goals (try simp only [decide_eq_true_eq, decide_eq_false_iff_not, beq_iff_eq, bne_iff_ne, beq_eq_false_iff_ne, bne_eq_false_iff_eq, Int.toNat_natCast, ge_iff_le, gt_iff_lt, Bool.not_eq_true', Bool.not_eq_false', Int.not_lt, Int.not_le, ne_eq] at *)
  all_goals (try dsimp only [Ty.den, Ty.dflt, .str] at *)
  all_goals (try simp only [eq4, ne4, eq3, ne3, eq2, ne2, Prod.eta, List.length_cons, List.length_nil, List.length_append, Nat.zero_add] at *)
  all_goals (try simp (disch := omega) only [wrap64] at *)
  all_goals (try simp only [Int.sub_zero, Int.toNat_natCast, Int.toNat_sub, Int.toNat_zero, Nat.zero_add, toNat_add', toNat_addsub, toNat_subadd, List.length_map, List.length_append, List.length_replicate, List.length_take, List.length_drop] at *)
  all_goals try rw [show ((n : Int) - 1).toNat = n - 1 by omega] at *
  all_goals try rw [hrg n (by omega), hrg (n - 1) (by omega)] at *
  all_goals try rw [hrg n (by omega)] at *
  all_goals try rw [hrg (n - 1) (by omega)] at *
  all_goals try first | exact leafDraw (by kernel_rfl) | exact Leaf.mk trivial | (refine Leaf.mk ?_; omega) | (refine Leaf.mk ?_; unfold maxLen; omega)
  all_goals try simp only [Option.getD_some] at *
  all_goals try exact Leaf.mk rfl
  rotate_left
  · refine Leaf.mk ⟨n + 1, rfl, ⟨by omega, by omega, ?_⟩, by omega⟩
    rw [compL_ne [] hn1 (by omega) h, he, take_at [] (by omega)]
  · refine Leaf.mk (readO_vw.trans (congrArg some (?_ : _ = (compL xs).map some)))
    rw [take_all (by omega)] at he
    rw [he]
    refine (raw_take (Nat.le_refl _)).trans ?_
    rw [take_all (Nat.le_refl _)]
  refine LoopVC.on (fun a : Nat × Nat × List (Option (List UInt8)) => [(3, .i .i64 a.1), (5, .i .i64 ((a.2.1 - n : Nat) : Int))]) (fun a => [(0, .raw 9 .str a.2.2)]) (fun a => n + 1 ≤ a.2.1 ∧ CF xs k a.2.2 a.1 a.2.1) (fun a => xs.length - a.2.1) (n, n + 1, xs.map some ++ List.replicate k none) ?_ ⟨Nat.le_refl _, CF.first [] hn1 (by omega) he h⟩ ?_
  · show _ = _
    rw [show n + 1 - n = 1 by omega]; rfl
  intro ⟨i, j, zs⟩ ⟨hj, q⟩
  dsimp only at hj q ⊢
  have hlt := q.lt
  have hle := q.le
  have hzl := q.len
  have hg1 := fun h => q.get [] (m := j) (by omega) h
  have hg2 := fun h => q.get [] (m := j - 1) (Nat.le_refl _) h
  repeat' (first | ((with_reducible refine Ev.mk ?_); conv => whnf) | (with_reducible refine And.intro ?_ ?_) | (intro h))
  all_goals (try simp only [decide_eq_true_eq, decide_eq_false_iff_not, beq_iff_eq, bne_iff_ne, beq_eq_false_iff_ne, bne_eq_false_iff_eq, Int.toNat_natCast, ge_iff_le, gt_iff_lt, Bool.not_eq_true', Bool.not_eq_false', Int.not_lt, Int.not_le, ne_eq] at *)
  all_goals (try dsimp only [Ty.den, Ty.dflt, .str] at *)
  all_goals (try simp only [eq4, ne4, eq3, ne3, eq2, ne2, Prod.eta, List.length_cons, List.length_nil, List.length_append, Nat.zero_add] at *)
  all_goals (try simp (disch := omega) only [wrap64] at *)
  all_goals (try simp only [Int.sub_zero, Int.toNat_natCast, Int.toNat_sub, Int.toNat_zero, Nat.zero_add, toNat_add', toNat_addsub, toNat_subadd, List.length_map, List.length_append, List.length_replicate, List.length_take, List.length_drop] at *)
  all_goals try rw [show n + (j - n) = j by omega] at *
  all_goals try rw [show n + (((j - n : Nat) : Int) - 1).toNat = j - 1 by omega] at *
  all_goals try rw [hg1 (by omega)] at *
  all_goals try rw [hg2 (by omega)] at *
  all_goals try simp only [Option.getD_some, Option.isSome_some] at *
  all_goals try first | exact leafDraw (by kernel_rfl) | exact Leaf.mk trivial | (refine Leaf.mk ?_; omega) | (refine Leaf.mk ?_; unfold maxLen; omega)
  all_goals try first
    | exact Leaf.mk rfl
    | (refine Leaf.mk ⟨(i + 1, j + 1, zs.set i (some (xs.getD j []))), ?_, ⟨by dsimp only; omega, q.new [] (by omega) ‹¬ _›⟩, by dsimp only; omega⟩
       dsimp only
       rw [show j + 1 - n = (j - n) + 1 by omega]; rfl)
    | (refine Leaf.mk ⟨(i, j + 1, zs), ?_, ⟨by dsimp only; omega, q.same [] (by omega) h⟩, by dsimp only; omega⟩
       dsimp only
       rw [show j + 1 - n = (j - n) + 1 by omega]; rfl)
  obtain rfl : j = xs.length := by omega
  refine Leaf.mk (readO_vw.trans (congrArg some (?_ : _ = (compL xs).map some)))
  change List.take (α := Option (List UInt8)) _ _ = _
  rw [List.append_assoc, List.take_append_of_le_length (by rw [List.length_take]; omega), List.take_take, Nat.min_self]
  exact q.fin
end Go.Proofs.YtkmfjlfejdoehaaGreat

set_option linter.unusedVariables false
set_option linter.unusedSimpArgs false
namespace Go.Proofs.YtkmfjlfejdoehaaGreat
open Go.Eng
theorem place_split (me : Int) (xs : List Ver) : (idxF (roomP me) xs 0 = -1 ∧ ∀ v ∈ xs, roomP me v = false) ∨
    ∃ A u B, xs = A ++ u :: B ∧ idxF (roomP me) xs 0 = A.length ∧ (∀ v ∈ A, roomP me v = false) ∧ roomP me u = true := by
  have gen : ∀ (xs : List Ver) (i : Nat), (idxF (roomP me) xs i = -1 ∧ ∀ v ∈ xs, roomP me v = false) ∨
    ∃ A u B, xs = A ++ u :: B ∧ idxF (roomP me) xs i = i + A.length ∧ (∀ v ∈ A, roomP me v = false) ∧ roomP me u = true := by
    intro xs
    induction xs with
    | nil => intro i; exact .inl ⟨rfl, by simp⟩
    | cons x r ih =>
      intro i
      cases hx : roomP me x
      · rw [idxF, if_neg (by rw [hx]; simp)]
        rcases ih (i + 1) with ⟨h1, h2⟩ | ⟨A, u, B, rfl, h1, h2, h3⟩
        · exact .inl ⟨h1, fun v hv => by rcases List.mem_cons.1 hv with rfl | hv; exact hx; exact h2 v hv⟩
        · exact .inr ⟨x :: A, u, B, rfl, by rw [h1]; simp; omega, fun v hv => by rcases List.mem_cons.1 hv with rfl | hv; exact hx; exact h2 v hv, h3⟩
      · rw [idxF, if_pos hx]
        exact .inr ⟨[], x, r, rfl, by simp, by simp, hx⟩
  have := gen xs 0
  simpa using this
section
variable {s : Stk} {v : Ver} {me at' : Int}
end
end Go.Proofs.YtkmfjlfejdoehaaGreat

set_option linter.unusedVariables false
set_option linter.unusedSimpArgs false
set_option maxRecDepth 8000
namespace Go.Proofs.YtkmfjlfejdoehaaGreat
open Go.Eng
abbrev NB (a b : Ver) : Prop := badP a b = false
theorem pw_iff {xs : List Ver} : ordered xs = true ↔ xs.Pairwise NB := by
  have e : ∀ i, (hi : i < xs.length) → xs.getD i ver0 = xs[i] := fun i hi => by
    rw [List.getD_eq_getElem?_getD, List.getElem?_eq_getElem hi]; rfl
  rw [ordered_iff, List.pairwise_iff_getElem]
  constructor
  · intro h i j hi hj hij
    have := h j hj i hij
    rwa [e i hi, e j hj] at this
  · intro h j hj k hk
    have := h k j (by omega) hj hk
    rw [e j hj, e k (by omega)]
    exact this
theorem stk_sub {s : Stk} {l : List Ver} (h : check s = 0) (hs : l.Sublist s.2) : check (s.1, l) = 0 := by
  have ok := check_ok.1 h
  exact check_ok.2 ⟨ok.key, Nat.le_trans hs.length_le ok.len, fun v hv => ok.all v (hs.subset hv), pw_iff.2 ((pw_iff.1 ok.ord).sublist hs)⟩
theorem abort_ok {s : Stk} {me : Int} (h : check s = 0) : check (abort s me) = 0 := stk_sub h List.filter_sublist
theorem keepN_sub (at' last : Int) (xs : List Ver) : ∀ n, n ≤ xs.length → (keepN at' last xs n).Sublist (xs.take n)
  | 0, _ => by simp [keepN]
  | n + 1, h => by
    rw [keepN, take_at ver0 (by omega)]
    refine (keepN_sub at' last xs n (by omega)).append ?_
    split
    · exact List.nil_sublist _
    · exact List.Sublist.refl _
theorem prune_ok {s : Stk} {at' : Int} (h : check s = 0) : check (prune s at') = 0 := by
  refine stk_sub h ?_
  have := keepN_sub at' (lastN at' s.2 s.2.length) s.2 s.2.length (Nat.le_refl _)
  rwa [List.take_length] at this
theorem bad_key {a b c d : Ver} (h1 : a.2.1 = c.2.1) (h2 : a.1 = c.1) (h3 : b.2.1 = d.2.1) (h4 : b.1 = d.1) : badP a b = badP c d := by
  unfold badP; rw [h1, h2, h3, h4]
theorem room_iff {me : Int} {v : Ver} : roomP me v = true ↔ v.2.1 = 0 ∧ v.1 = me := by simp [roomP]
theorem pw_set {A B : List Ver} {u v : Ver} (h : (A ++ u :: B).Pairwise NB) (h1 : u.2.1 = v.2.1) (h2 : u.1 = v.1) : (A ++ v :: B).Pairwise NB := by
  rw [List.pairwise_append, List.pairwise_cons] at h ⊢
  obtain ⟨p1, ⟨p2, p3⟩, p4⟩ := h
  refine ⟨p1, ⟨fun b hb => ?_, p3⟩, fun a ha b hb => ?_⟩
  · rw [NB, ← bad_key h1 h2 rfl rfl]; exact p2 b hb
  · rcases List.mem_cons.1 hb with rfl | hb
    · rw [NB, ← bad_key rfl rfl h1 h2]; exact p4 a ha u (by simp)
    · exact p4 a ha b (by simp [hb])
theorem write_at {s : Stk} {v : Ver} : (∃ A u B, s.2 = A ++ u :: B ∧ roomP v.1 u = true ∧ (∀ w ∈ A, roomP v.1 w = false) ∧ write s v = (s.1, A ++ (v.1, 0, v.2.2) :: B)) ∨
    ((∀ w ∈ s.2, roomP v.1 w = false) ∧ ((s.2.length < 8 ∧ write s v = (s.1, s.2 ++ [(v.1, 0, v.2.2)])) ∨ (¬ s.2.length < 8 ∧ write s v = s))) := by
  rcases place_split v.1 s.2 with ⟨h1, h2⟩ | ⟨A, u, B, h, h1, h2, h3⟩
  · refine .inr ⟨h2, ?_⟩
    by_cases hl : s.2.length < 8
    · exact .inl ⟨hl, by unfold write; rw [if_neg (by omega), if_pos hl]⟩
    · exact .inr ⟨hl, by unfold write; rw [if_neg (by omega), if_neg hl]⟩
  · refine .inl ⟨A, u, B, h, h3, h2, ?_⟩
    unfold write
    rw [if_pos (by omega), h1, Int.toNat_natCast, h, List.set_append_right _ _ (Nat.le_refl _), Nat.sub_self]; rfl
theorem write_ok {s : Stk} {v : Ver} (h : check s = 0) (hv : VerOk (v.1, 0, v.2.2)) : check (write s v) = 0 := by
  have ok := check_ok.1 h
  have hp := pw_iff.1 ok.ord
  rcases write_at (s := s) (v := v) with ⟨A, u, B, e, hu, hA, hw⟩ | ⟨hn, ⟨hl, hw⟩ | ⟨hl, hw⟩⟩
  · rw [hw]
    have hu := room_iff.1 hu
    rw [e] at hp
    refine check_ok.2 ⟨ok.key, ?_, fun w hw => ?_, pw_iff.2 (pw_set hp hu.1 hu.2)⟩
    · have := ok.len; rw [e] at this; simpa using this
    · rcases List.mem_append.1 hw with hw | hw
      · exact ok.all w (by rw [e]; simp [hw])
      · rcases List.mem_cons.1 hw with rfl | hw
        · exact hv
        · exact ok.all w (by rw [e]; simp [hw])
  · rw [hw]
    refine check_ok.2 ⟨ok.key, by simp; omega, fun w hw => ?_, pw_iff.2 ?_⟩
    · rcases List.mem_append.1 hw with hw | hw
      · exact ok.all w hw
      · rw [List.mem_singleton.1 hw]; exact hv
    · rw [List.pairwise_append]
      refine ⟨hp, List.pairwise_singleton _ _, fun a ha b hb => ?_⟩
      rw [List.mem_singleton.1 hb, NB, bad_false]
      refine ⟨fun h0 => ⟨rfl, fun hc => ?_⟩, fun hc => absurd rfl hc⟩
      have := hn a ha
      rw [room_iff.2 ⟨h0, hc⟩] at this; cases this
  · rw [hw]; exact h
theorem slotN_spec (ts : Int) (ys : List Ver) : ∀ n, n ≤ ys.length → (∀ j, slotN ts ys n ≤ j → j < n → (ys.getD j ver0).2.1 = 0 ∨ ts < (ys.getD j ver0).2.1) ∧ (0 < slotN ts ys n → (ys.getD (slotN ts ys n - 1) ver0).2.1 ≠ 0 ∧ (ys.getD (slotN ts ys n - 1) ver0).2.1 ≤ ts)
  | 0, _ => ⟨fun j _ h => by omega, fun h => by simp [slotN] at h⟩
  | n + 1, hn => by
    have ih := slotN_spec ts ys n (by omega)
    rw [slotN]
    split
    · rename_i hc
      refine ⟨fun j h1 h2 => ?_, ih.2⟩
      rcases Nat.lt_or_ge j n with h3 | h3
      · exact ih.1 j h1 h3
      · have : j = n := by omega
        subst this; exact hc
    · rename_i hc
      rw [not_or] at hc
      exact ⟨fun j h1 h2 => by omega, fun _ => ⟨hc.1, by rw [Nat.add_sub_cancel]; omega⟩⟩
theorem commit_at {s : Stk} {A B : List Ver} {u : Ver} {me ts : Int} (h : s.2 = A ++ u :: B) (hA : ∀ v ∈ A, roomP me v = false) (hu : roomP me u = true) (h1 : 1 ≤ ts) :
    commit s me ts = (s.1, (A ++ B).take (slotN ts (A ++ B) (A ++ B).length) ++ (u.1, ts, u.2.2) :: (A ++ B).drop (slotN ts (A ++ B) (A ++ B).length)) := by
  have hp : idxF (roomP me) s.2 0 = A.length := by
    have gen : ∀ (A : List Ver) (i : Nat), (∀ v ∈ A, roomP me v = false) → idxF (roomP me) (A ++ u :: B) i = i + A.length := by
      intro A
      induction A with
      | nil => intro i _; rw [List.nil_append, idxF, if_pos hu]; simp
      | cons x r ih =>
        intro i hx
        rw [List.cons_append, idxF, if_neg (by rw [hx x (by simp)]; simp), ih (i + 1) (fun v hv => hx v (by simp [hv]))]
        simp; omega
    rw [h, gen A 0 hA]; simp
  have hcut : cut s.2 A.length = A ++ B := by
    unfold cut
    rw [h, List.take_left' rfl, List.drop_append, List.drop_of_length_le (by omega), show A.length + 1 - A.length = 1 by omega]; rfl
  have hget : s.2.getD A.length ver0 = u := by
    rw [h, List.getD_eq_getElem?_getD, List.getElem?_append_right (Nat.le_refl _), Nat.sub_self]; rfl
  unfold commit
  rw [if_neg (by rw [hp]; omega), hp, Int.toNat_natCast, hcut, hget]; rfl
theorem commit_no {s : Stk} {me ts : Int} (h : ∀ v ∈ s.2, roomP me v = false) : commit s me ts = s := by
  have : idxF (roomP me) s.2 0 = -1 := by
    rcases place_split me s.2 with ⟨h1, _⟩ | ⟨A, u, B, e, _, _, h3⟩
    · exact h1
    · have := h u (by rw [e]; simp)
      rw [h3] at this; cases this
  unfold commit
  rw [if_pos (.inl (by omega))]
theorem commit_ok {s : Stk} {me ts : Int} (h : check s = 0) (hts : ts ≤ 1099511627776) : check (commit s me ts) = 0 := by
  have ok := check_ok.1 h
  have hp := pw_iff.1 ok.ord
  by_cases h1 : 1 ≤ ts
  rotate_left
  · unfold commit; rw [if_pos (.inr (by omega))]; exact h
  rcases place_split me s.2 with ⟨_, h2⟩ | ⟨A, u, B, e, _, h2, h3⟩
  · rw [commit_no h2]; exact h
  · rw [commit_at e h2 h3 h1]
    have hsub : (A ++ B).Sublist s.2 := by rw [e]; exact (List.Sublist.refl A).append (List.sublist_cons_self u B)
    have hpy : (A ++ B).Pairwise NB := hp.sublist hsub
    have hq := slotN_le (ts := ts) (ys := A ++ B) (A ++ B).length
    obtain ⟨hs1, hs2⟩ := slotN_spec ts (A ++ B) (A ++ B).length (Nat.le_refl _)
    generalize slotN ts (A ++ B) (A ++ B).length = q at hq hs1 hs2
    have hall : ∀ v ∈ A ++ B, VerOk v := fun v hv => ok.all v (hsub.subset hv)
    have hu := ok.all u (by rw [e]; simp)
    have hyl : (A ++ B).length + 1 = s.2.length := by rw [e]; simp; omega
    generalize A ++ B = ys at *
    refine check_ok.2 ⟨ok.key, ?_, fun w hw => ?_, pw_iff.2 ?_⟩
    · have h8 := ok.len
      simp; omega
    · rcases List.mem_append.1 hw with hw | hw
      · exact hall w (List.mem_of_mem_take hw)
      · rcases List.mem_cons.1 hw with rfl | hw
        · exact ⟨hu.val, hu.gone, hu.txn, by dsimp only; omega⟩
        · exact hall w (List.mem_of_mem_drop hw)
    · have hp2 := hpy
      rw [← List.take_append_drop q ys, List.pairwise_append] at hp2
      rw [List.pairwise_append, List.pairwise_cons]
      have hmem : ∀ b ∈ ys.drop q, b.2.1 = 0 ∨ ts < b.2.1 := fun b hb => by
        obtain ⟨i, hi, rfl⟩ := List.mem_iff_getElem.1 hb
        simp at hi
        have := hs1 (q + i) (by omega) (by omega)
        rw [List.getD_eq_getElem?_getD, List.getElem?_eq_getElem (by omega)] at this
        simpa using this
      have hlow : ∀ a ∈ ys.take q, a.2.1 ≠ 0 ∧ a.2.1 ≤ ts := fun a ha => by
        obtain ⟨i, hi, rfl⟩ := List.mem_iff_getElem.1 ha
        simp at hi
        obtain ⟨k1, k2⟩ := hs2 (by omega)
        rw [List.getD_eq_getElem?_getD, List.getElem?_eq_getElem (by omega)] at k1 k2
        simp only [Option.getD_some] at k1 k2
        rw [List.getElem_take]
        by_cases hi1 : i = q - 1
        · subst hi1; exact ⟨k1, k2⟩
        · have := bad_false.1 (List.pairwise_iff_getElem.1 hpy i (q - 1) (by omega) (by omega) (by omega))
          exact ⟨fun h0 => k1 (this.1 h0).1, Int.le_trans (this.2 k1) k2⟩
      refine ⟨hp2.1, ⟨fun b hb => ?_, hp2.2.1⟩, fun a ha b hb => ?_⟩
      · rw [NB, bad_false]
        dsimp only
        refine ⟨fun h0 => by omega, fun h0 => ?_⟩
        rcases hmem b hb with h4 | h4
        · exact absurd h4 h0
        · omega
      · rcases List.mem_cons.1 hb with rfl | hb
        · rw [NB, bad_false]
          exact ⟨fun h0 => absurd h0 (hlow a ha).1, fun _ => (hlow a ha).2⟩
        · exact hp2.2.2 a ha b hb
end Go.Proofs.YtkmfjlfejdoehaaGreat

set_option linter.unusedVariables false
set_option linter.unusedSimpArgs false
set_option maxRecDepth 8000
set_option maxHeartbeats 4000000
namespace Go.Proofs.YtkmfjlfejdoehaaGreat
open Go.Eng
abbrev MsgT : Ty := .pair (.int .u8) (.pair .str (.pair (.int .i64) (.pair (.int .i64) (.pair .bool .str))))
abbrev Msg := Int × List UInt8 × Int × Int × Bool × List UInt8
abbrev msg0 : Msg := (0, [], 0, 0, false, [])
abbrev FldT : Ty := .pair .bool (.pair .bool .bool)
def ofK (k : Int) : Bool × Bool × Bool := (decide (k = 0), decide (k = 0 ∨ k = 1 ∨ k = 2), decide (k = 1 ∨ k = 3))
def sOf : PSpec := ⟨[.d (.int .u8)], [⟨true, [.d FldT]⟩], fun _ => True, fun x => ((ofK x.1, ()), ())⟩
theorem fOf : FnOk Tryz.prog 126 := ⟨_, Tryz.func126, by decide, rfl⟩
theorem pOf : PSound Tryz.prog 126 sOf := by
  refine psound (T := tab) (S := (spOf [])) (keep := k126) (by kernel_rfl) tabOk spNil (by kernel_rfl) Tryz.func126 (by kernel_rfl) (by decide) fun xs hg hp => ?_
  obtain ⟨k, ⟨⟩⟩ := xs
  change Int at k
  show vfun tab _ k126 Tryz.f126 [.i .u8 k] [] _
  refine Ev.out ?_
  repeat' (first | ((with_reducible refine Ev.mk ?_); conv => whnf) | (with_reducible refine And.intro ?_ ?_) | (intro h))
  all_goals (try simp only [decide_eq_true_eq, decide_eq_false_iff_not, beq_iff_eq, bne_iff_ne, beq_eq_false_iff_ne, bne_eq_false_iff_eq, Int.toNat_natCast, ge_iff_le, gt_iff_lt, Bool.not_eq_true', Bool.not_eq_false', Int.not_lt, Int.not_le, ne_eq] at *)
  all_goals (try dsimp only [Ty.den, Ty.dflt, MsgT] at *)
  all_goals (try simp only [eq4, ne4, eq3, ne3, eq2, ne2, Prod.eta, List.length_cons, List.length_nil, List.length_append, Nat.zero_add] at *)
  all_goals (try simp (disch := omega) only [wrap64] at *)
  all_goals
    refine Leaf.mk (ret1 (show _ = ofK k from ?_))
    unfold ofK
    simp_all
def sMIn : PSpec := sIn
theorem fMIn : FnOk Tryz.prog 127 := ⟨_, Tryz.func127, by decide, rfl⟩
theorem pMIn : PSound Tryz.prog 127 sMIn := by
  refine psound (T := tab) (S := (spOf [])) (keep := k127) (by kernel_rfl) tabOk spNil (by kernel_rfl) Tryz.func127 (by kernel_rfl) (by decide) fun xs hg hp => ?_
  obtain ⟨n, ⟨⟩⟩ := xs
  change Int at n
  show vfun tab _ k127 Tryz.f127 [.i .i64 n] [] _
  refine Ev.out ?_
  repeat' (first | ((with_reducible refine Ev.mk ?_); conv => whnf) | (with_reducible refine And.intro ?_ ?_) | (intro h))
  all_goals (try simp only [decide_eq_true_eq, decide_eq_false_iff_not, beq_iff_eq, bne_iff_ne, beq_eq_false_iff_ne, bne_eq_false_iff_eq, Int.toNat_natCast, ge_iff_le, gt_iff_lt, Bool.not_eq_true', Bool.not_eq_false', Int.not_lt, Int.not_le, ne_eq] at *)
  all_goals (try dsimp only [Ty.den, Ty.dflt, VerT] at *)
  all_goals (try simp only [eq4, ne4, eq3, ne3, eq2, ne2, Prod.eta, List.length_cons, List.length_nil, List.length_append, Nat.zero_add] at *)
  all_goals (try simp (disch := omega) only [wrap64] at *)
  all_goals
    refine Leaf.mk (ret1 (show _ = inB n from ?_))
    simp only [inB]
    first
    | (rw [decide_eq_false (p := 0 ≤ n ∧ n ≤ 1099511627776) (by omega)]; done)
    | (congr 1; simp only [eq_iff_iff]; omega)
def mForm (m : Msg) : Prop := (m.1 = 0 ∨ (m.2.2.2.2.1 = false ∧ m.2.1.length = 0 ∧ m.2.2.2.2.2.length = 0)) ∧ (m.1 = 3 → m.2.2.1 = 0) ∧ (m.1 = 0 ∨ m.1 = 2 → m.2.2.2.1 = 0) ∧ (m.2.2.2.2.1 = false ∨ m.2.2.2.2.2.length = 0)
instance (m : Msg) : Decidable (mForm m) := by unfold mForm; infer_instance
def mcheck (m : Msg) : Int := if 3 < m.1 then 13 else if ¬ mForm m then 4 else if ¬ (inB m.2.2.1 = true ∧ inB m.2.2.2.1 = true) ∨ (m.1 = 1 ∧ m.2.2.2.1 = 0) then 9 else if 16 < m.2.1.length ∨ 24 < m.2.2.2.2.2.length then 5 else 0
def sMCheck : PSpec := ⟨[.d MsgT], [⟨false, [.d (.int .i64)]⟩], fun _ => True, fun x => ((mcheck x.1, ()), ())⟩
theorem fMCheck : FnOk Tryz.prog 65 := ⟨_, Tryz.func65, by decide, rfl⟩
theorem pMCheck : PSound Tryz.prog 65 sMCheck := by
  refine psound (T := tab) (S := (spOf [(126, sOf.spec (lsOf [])), (127, sMIn.spec (lsOf []))])) (keep := k65) (by kernel_rfl) tabOk (spCons (pOk pOf fOf (by decide) lsNil) (spCons (pOk pMIn fMIn (by decide) lsNil) spNil)) (by kernel_rfl) Tryz.func65 (by kernel_rfl) (by decide) fun xs hg hp => ?_
  obtain ⟨⟨kind, key, txn, ts, gone, val⟩, ⟨⟩⟩ := xs
  obtain ⟨⟨hk, hkl, htx, hts, -, hvl⟩, -⟩ := hg
  change List UInt8 at key
  change List UInt8 at val
  change Int at kind txn ts
  change Bool at gone
  change key.length ≤ _ at hkl
  change val.length ≤ _ at hvl
  have hkl := len63 hkl
  have hvl := len63 hvl
  have hk := bdu8 hk
  show vfun tab _ k65 Tryz.f65 [.agg [.i .u8 kind, .s key, .i .i64 txn, .i .i64 ts, .b gone, .s val]] [] _
  refine Ev.out ?_
  repeat' (first | ((with_reducible refine Ev.mk ?_); conv => whnf) | (with_reducible refine And.intro ?_ ?_) | (intro h))
  all_goals (try simp only [decide_eq_true_eq, decide_eq_false_iff_not, beq_iff_eq, bne_iff_ne, beq_eq_false_iff_ne, bne_eq_false_iff_eq, Int.toNat_natCast, ge_iff_le, gt_iff_lt, Bool.not_eq_true', Bool.not_eq_false', Int.not_lt, Int.not_le, ne_eq] at *)
  all_goals (try dsimp only [Ty.den, Ty.dflt, MsgT, sOf, ofK, sMIn, sIn] at *)
  all_goals (try simp only [eq4, ne4, eq3, ne3, eq2, ne2, Prod.eta, List.length_cons, List.length_nil, List.length_append, Nat.zero_add] at *)
  all_goals (try simp (disch := omega) only [wrap64] at *)
  all_goals try first | exact leafDraw (by kernel_rfl) | exact Leaf.mk trivial | (refine Leaf.mk ?_; omega) | (refine Leaf.mk ?_; unfold maxLen; omega)
  all_goals try simp only [← List.length_eq_zero_iff] at *
  all_goals try simp only [inB, decide_eq_true_eq, decide_eq_false_iff_not] at *
  all_goals
    refine Leaf.mk (ret1 (show (_ : Int) = mcheck (kind, key, txn, ts, gone, val) from ?_))
    simp only [mcheck, mForm, inB, decide_eq_true_eq]
    cases gone
  all_goals try simp only [reduceCtorEq, false_and, true_and, and_true, or_true, true_or, false_or, or_false, not_true_eq_false, not_false_eq_true] at *
  all_goals
    repeat' split
  all_goals first | rfl | (exfalso; omega)
def sMCheckR : PSpec := sMCheck
section
variable {α β γ δ ε ζ : Type} [BEq α] [LawfulBEq α] [BEq β] [LawfulBEq β] [BEq γ] [LawfulBEq γ] [BEq δ] [LawfulBEq δ] [BEq ε] [LawfulBEq ε] [BEq ζ] [LawfulBEq ζ]
end
end Go.Proofs.YtkmfjlfejdoehaaGreat

set_option linter.unusedVariables false
set_option linter.unusedSimpArgs false
set_option maxRecDepth 8000
set_option maxHeartbeats 4000000
namespace Go.Proofs.YtkmfjlfejdoehaaGreat
open Go.Eng
def wide (m : Msg) : Bool := decide (1 ≤ m.1 ∧ m.1 ≤ 3)
def sWide : PSpec := ⟨[.d MsgT], [⟨false, [.d .bool]⟩], fun _ => True, fun x => ((wide x.1, ()), ())⟩
def sWideR : PSpec := sWide
theorem fWide : FnOk Tryz.prog 108 := ⟨_, Tryz.func108, by decide, rfl⟩
theorem pWide : PSound Tryz.prog 108 sWide := by
  refine psound (T := tab) (S := (spOf [])) (keep := k108) (by kernel_rfl) tabOk spNil (by kernel_rfl) Tryz.func108 (by kernel_rfl) (by decide) fun xs hg hp => ?_
  obtain ⟨⟨kind, key, txn, ts, gone, val⟩, ⟨⟩⟩ := xs
  obtain ⟨⟨hk, -⟩, -⟩ := hg
  change List UInt8 at key
  change List UInt8 at val
  change Int at kind txn ts
  change Bool at gone
  have hk := bdu8 hk
  show vfun tab _ k108 Tryz.f108 [.agg [.i .u8 kind, .s key, .i .i64 txn, .i .i64 ts, .b gone, .s val]] [] _
  refine Ev.out ?_
  repeat' (first | ((with_reducible refine Ev.mk ?_); conv => whnf) | (with_reducible refine And.intro ?_ ?_) | (intro h))
  all_goals (try simp only [decide_eq_true_eq, decide_eq_false_iff_not, beq_iff_eq, bne_iff_ne, beq_eq_false_iff_ne, bne_eq_false_iff_eq, Int.toNat_natCast, ge_iff_le, gt_iff_lt, Bool.not_eq_true', Bool.not_eq_false', Int.not_lt, Int.not_le, ne_eq] at *)
  all_goals (try dsimp only [Ty.den, Ty.dflt, MsgT] at *)
  all_goals (try simp only [eq4, ne4, eq3, ne3, eq2, ne2, Prod.eta, List.length_cons, List.length_nil, List.length_append, Nat.zero_add] at *)
  all_goals (try simp (disch := omega) only [wrap64] at *)
  all_goals
    refine Leaf.mk (ret1 (show _ = wide (kind, key, txn, ts, gone, val) from ?_))
    unfold wide
    first
    | (rw [eq_comm, decide_eq_false_iff_not]; omega)
    | (rw [eq_comm, decide_eq_true_eq]; omega)
    | (congr 1; simp only [eq_iff_iff]; omega)
    | (rw [Bool.eq_iff_iff]; simp only [decide_eq_true_eq, beq_iff_eq]; omega)
def about (k : List UInt8) (m : Msg) : Bool := wide m || decide (m.1 = 0 ∧ m.2.1 = k)
def sAbout : PSpec := ⟨[.d MsgT, .d .str], [⟨false, [.d .bool]⟩], fun _ => True, fun x => ((about x.2.1 x.1, ()), ())⟩
def sAboutR : PSpec := sAbout
theorem fAbout : FnOk Tryz.prog 128 := ⟨_, Tryz.func128, by decide, rfl⟩
theorem pAbout : PSound Tryz.prog 128 sAbout := by
  refine psound (T := tab) (S := (spOf [(108, sWide.spec (lsOf []))])) (keep := k128) (by kernel_rfl) tabOk (spCons (pOk pWide fWide (by decide) lsNil) spNil) (by kernel_rfl) Tryz.func128 (by kernel_rfl) (by decide) fun xs hg hp => ?_
  obtain ⟨⟨kind, key, txn, ts, gone, val⟩, k, ⟨⟩⟩ := xs
  obtain ⟨⟨hk, -⟩, -⟩ := hg
  change List UInt8 at key
  change List UInt8 at val
  change Int at kind txn ts
  change Bool at gone
  have hk := bdu8 hk
  change List UInt8 at k
  show vfun tab _ k128 Tryz.f128 [.agg [.i .u8 kind, .s key, .i .i64 txn, .i .i64 ts, .b gone, .s val], .s k] [] _
  refine Ev.out ?_
  repeat' (first | ((with_reducible refine Ev.mk ?_); conv => whnf) | (with_reducible refine And.intro ?_ ?_) | (intro h))
  all_goals (try simp only [decide_eq_true_eq, decide_eq_false_iff_not, beq_iff_eq, bne_iff_ne, beq_eq_false_iff_ne, bne_eq_false_iff_eq, Int.toNat_natCast, ge_iff_le, gt_iff_lt, Bool.not_eq_true', Bool.not_eq_false', Int.not_lt, Int.not_le, ne_eq] at *)
  all_goals (try dsimp only [Ty.den, Ty.dflt, MsgT, sWide, sWideR] at *)
  all_goals (try simp only [eq4, ne4, eq3, ne3, eq2, ne2, Prod.eta, List.length_cons, List.length_nil, List.length_append, Nat.zero_add] at *)
  all_goals (try simp (disch := omega) only [wrap64] at *)
  all_goals try first | exact leafDraw (by kernel_rfl) | exact Leaf.mk trivial | (refine Leaf.mk ?_; omega) | (refine Leaf.mk ?_; unfold maxLen; omega)
  all_goals
    refine Leaf.mk (ret1 (show _ = about k (kind, key, txn, ts, gone, val) from ?_))
    unfold about
    dsimp only
    try rw [‹wide _ = false›]
    try rw [‹wide _ = true›]
    first
    | rfl
    | (rw [decide_eq_false (fun hc => by omega)]; rfl)
    | (rw [Bool.eq_iff_iff]; simp only [Bool.false_or, decide_eq_true_eq, beq_iff_eq]
       exact ⟨fun h => ⟨by assumption, h⟩, fun h => h.2⟩)
def applyM (s : Stk) (m : Msg) : Stk := if mcheck m = 0 ∧ about s.1 m = true then (if m.1 = 1 then commit s m.2.2.1 m.2.2.2.1 else if m.1 = 2 then abort s m.2.2.1 else if m.1 = 3 then prune s m.2.2.2.1 else write s (m.2.2.1, 0, m.2.2.2.2.1, m.2.2.2.2.2)) else s
def sApply : PSpec := ⟨[.d StT, .d MsgT], [⟨true, [.d StT]⟩], fun x => List.length x.1.2 ≤ 100000, fun x => ((applyM x.1 x.2.1, ()), ())⟩
theorem fApply : FnOk Tryz.prog 69 := ⟨_, Tryz.func69, by decide, rfl⟩
theorem pApply : PSound Tryz.prog 69 sApply := by
  refine psound (T := tab) (S := (spOf [(65, sMCheck.spec (lsOf [])), (128, sAbout.spec (lsOf [])), (129, sCloneV.spec (lsOf [])), (130, sCommit.spec (lsOf [])), (131, sAbort.spec (lsOf [])), (132, sPrune.spec (lsOf [])), (133, sWrite.spec (lsOf []))])) (keep := k69) (by kernel_rfl) tabOk (spCons (pOk pMCheck fMCheck (by decide) lsNil) (spCons (pOk pAbout fAbout (by decide) lsNil) (spCons (pOk pCloneV fCloneV (by decide) lsNil) (spCons (pOk pCommit fCommit (by decide) lsNil) (spCons (pOk pAbort fAbort (by decide) lsNil) (spCons (pOk pPrune fPrune (by decide) lsNil) (spCons (pOk pWrite fWrite (by decide) lsNil) spNil))))))) (by kernel_rfl) Tryz.func69 (by kernel_rfl) (by decide) fun xs hg hp => ?_
  obtain ⟨⟨skey, xs⟩, ⟨kind, key, txn, ts, gone, val⟩, ⟨⟩⟩ := xs
  obtain ⟨-, hg⟩ := hg
  obtain ⟨⟨hk, -⟩, -⟩ := hg
  change List UInt8 at key
  change List UInt8 at val
  change Int at kind txn ts
  change Bool at gone
  have hk := bdu8 hk
  change List UInt8 at skey
  change List Ver at xs
  change xs.length ≤ 100000 at hp
  show vfun tab _ k69 Tryz.f69 [.agg [.s skey, .sl VerT xs], .agg [.i .u8 kind, .s key, .i .i64 txn, .i .i64 ts, .b gone, .s val]] [] _
  refine Ev.out ?_
  repeat' (first | ((with_reducible refine Ev.mk ?_); conv => whnf) | (with_reducible refine And.intro ?_ ?_) | (intro h))
  all_goals (try simp only [decide_eq_true_eq, decide_eq_false_iff_not, beq_iff_eq, bne_iff_ne, beq_eq_false_iff_ne, bne_eq_false_iff_eq, Int.toNat_natCast, ge_iff_le, gt_iff_lt, Bool.not_eq_true', Bool.not_eq_false', Int.not_lt, Int.not_le, ne_eq] at *)
  all_goals (try dsimp only [Ty.den, Ty.dflt, MsgT, VerT, sMCheck, sAbout, sAboutR, sMCheckR] at *)
  all_goals (try simp only [eq4, ne4, eq3, ne3, eq2, ne2, Prod.eta, List.length_cons, List.length_nil, List.length_append, Nat.zero_add] at *)
  all_goals (try simp (disch := omega) only [wrap64] at *)
  all_goals try first | exact leafDraw (by kernel_rfl) | exact Leaf.mk trivial | (refine Leaf.mk ?_; omega) | (refine Leaf.mk ?_; unfold maxLen; omega)
  all_goals try first
    | exact Leaf.mk (show xs.length ≤ 100000 from hp)
    | exact Leaf.mk (show xs.length ≤ 1000000 by omega)
  all_goals
    refine Leaf.mk (ret1 (show (_ : Stk) = applyM (skey, xs) (kind, key, txn, ts, gone, val) from ?_))
    unfold applyM
    first
    | (refine Eq.trans ?_ (if_neg (fun hc => h hc.1)).symm; rfl)
    | (refine Eq.trans ?_ (if_neg (fun hc => Bool.noConfusion (hc.2.symm.trans h))).symm; rfl)
    | (refine Eq.trans ?_ (if_pos ⟨‹mcheck _ = 0›, ‹about _ _ = true›⟩).symm
       first
       | (refine Eq.trans ?_ (if_pos ‹kind = 1›).symm; rfl)
       | (refine Eq.trans ?_ (if_neg ‹¬ kind = 1›).symm
          first
          | (refine Eq.trans ?_ (if_pos ‹kind = 2›).symm; rfl)
          | (refine Eq.trans ?_ (if_neg ‹¬ kind = 2›).symm
             first
             | (refine Eq.trans ?_ (if_pos ‹kind = 3›).symm; rfl)
             | (refine Eq.trans ?_ (if_neg ‹¬ kind = 3›).symm; rfl))))
end Go.Proofs.YtkmfjlfejdoehaaGreat

set_option linter.unusedVariables false
set_option linter.unusedSimpArgs false
set_option maxRecDepth 8000
set_option maxHeartbeats 4000000
namespace Go.Proofs.YtkmfjlfejdoehaaGreat
open Go.Eng
theorem write_len' (s : Stk) (v : Ver) : (write s v).2.length ≤ s.2.length + 1 := by
  unfold write; repeat' split
  all_goals simp
theorem abort_len (s : Stk) (me : Int) : (abort s me).2.length ≤ s.2.length := List.length_filter_le _ _
theorem prune_len (s : Stk) (ts : Int) : (prune s ts).2.length ≤ s.2.length := keepN_le _ _ _ _
theorem commit_len (s : Stk) (me ts : Int) : (commit s me ts).2.length ≤ s.2.length + 1 := by
  unfold commit
  split
  · exact Nat.le_succ _
  · simp only [List.length_append, List.length_take, List.length_drop, List.length_singleton, cut]
    omega
theorem apply_len (s : Stk) (m : Msg) : (applyM s m).2.length ≤ s.2.length + 1 := by
  have h1 := write_len' s (m.2.2.1, 0, m.2.2.2.2.1, m.2.2.2.2.2)
  have h2 := abort_len s m.2.2.1
  have h3 := prune_len s m.2.2.2.1
  have h4 := commit_len s m.2.2.1 m.2.2.2.1
  unfold applyM
  repeat' split
  all_goals omega
def foldM (s : Stk) (l : List Msg) : Stk := l.foldl applyM s
theorem fold_len : ∀ (l : List Msg) (s : Stk), (foldM s l).2.length ≤ s.2.length + l.length
  | [], s => Nat.le_refl _
  | m :: l, s => by
    have h1 := apply_len s m
    have h2 := fold_len l (applyM s m)
    show (foldM (applyM s m) l).2.length ≤ _
    rw [List.length_cons]; omega
def sFold : PSpec := ⟨[.d StT, .d (.slice MsgT)], [⟨true, [.d StT]⟩], fun x => List.length x.1.2 + List.length x.2.1 ≤ 50000, fun x => ((foldM x.1 x.2.1, ()), ())⟩
theorem fFold : FnOk Tryz.prog 79 := ⟨_, Tryz.func79, by decide, rfl⟩
theorem pFold : PSound Tryz.prog 79 sFold := by
  refine psound (T := tab) (S := (spOf [(69, sApply.spec (lsOf []))])) (keep := k79) (by kernel_rfl) tabOk (spCons (pOk pApply fApply (by decide) lsNil) spNil) (by kernel_rfl) Tryz.func79 (by kernel_rfl) (by decide) fun xs hg hp => ?_
  obtain ⟨⟨skey, xs⟩, l, ⟨⟩⟩ := xs
  change List UInt8 at skey
  change List Ver at xs
  change List Msg at l
  change xs.length + l.length ≤ 50000 at hp
  clear hg
  show vfun tab _ k79 Tryz.f79 [.agg [.s skey, .sl VerT xs], .sl MsgT l] [] _
  refine Ev.out ?_
  repeat' (first | ((with_reducible refine Ev.mk ?_); conv => whnf) | (with_reducible refine And.intro ?_ ?_) | (intro h))
  all_goals (try simp only [decide_eq_true_eq, decide_eq_false_iff_not, beq_iff_eq, bne_iff_ne, beq_eq_false_iff_ne, bne_eq_false_iff_eq, Int.toNat_natCast, ge_iff_le, gt_iff_lt, Bool.not_eq_true', Bool.not_eq_false', Int.not_lt, Int.not_le, ne_eq] at *)
  all_goals (try dsimp only [Ty.den, Ty.dflt, VerT, MsgT] at *)
  all_goals (try simp only [eq4, ne4, eq3, ne3, eq2, ne2, Prod.eta, List.length_cons, List.length_nil, List.length_append, Nat.zero_add] at *)
  all_goals (try simp (disch := omega) only [wrap64] at *)
  all_goals try first | exact leafDraw (by kernel_rfl) | exact Leaf.mk trivial | (refine Leaf.mk ?_; omega) | (refine Leaf.mk ?_; unfold maxLen; omega)
  refine LoopVC.on (fun i : Nat => [(9, .i .i64 i)]) (fun i => [(0, .box [.s (foldM (skey, xs) (l.take i)).1, .sl VerT (foldM (skey, xs) (l.take i)).2])]) (fun i => i ≤ l.length) (fun i => l.length - i) 0 rfl (by omega) ?_
  intro i hi
  have hfl := fold_len (l.take i) (skey, xs)
  have htl : (l.take i).length ≤ i := by rw [List.length_take]; omega
  have hat : ∀ h : i < l.length, foldM (skey, xs) (l.take (i + 1)) = applyM (foldM (skey, xs) (l.take i)) (l.getD i msg0) := fun h => foldl_at msg0 h
  generalize hS : foldM (skey, xs) (l.take i) = S at *
  repeat' (first | ((with_reducible refine Ev.mk ?_); conv => whnf) | (with_reducible refine And.intro ?_ ?_) | (intro h))
  all_goals (try simp only [decide_eq_true_eq, decide_eq_false_iff_not, beq_iff_eq, bne_iff_ne, beq_eq_false_iff_ne, bne_eq_false_iff_eq, Int.toNat_natCast, ge_iff_le, gt_iff_lt, Bool.not_eq_true', Bool.not_eq_false', Int.not_lt, Int.not_le, ne_eq] at *)
  all_goals (try dsimp only [Ty.den, Ty.dflt, VerT, MsgT] at *)
  all_goals (try simp only [eq4, ne4, eq3, ne3, eq2, ne2, Prod.eta, List.length_cons, List.length_nil, List.length_append, Nat.zero_add] at *)
  all_goals (try simp (disch := omega) only [wrap64] at *)
  all_goals try first | exact leafDraw (by kernel_rfl) | exact Leaf.mk trivial | (refine Leaf.mk ?_; omega) | (refine Leaf.mk ?_; unfold maxLen; omega)
  all_goals first
    | exact Leaf.mk (show S.2.length ≤ 100000 by omega)
    | (refine Leaf.mk ⟨i + 1, ?_, by omega, by omega⟩
       rw [hat (by omega)]; rfl)
    | (refine Leaf.mk (ret1 (show (S.1, S.2) = foldM (skey, xs) l from ?_))
       rw [← hS, take_all (by omega)])
end Go.Proofs.YtkmfjlfejdoehaaGreat

set_option linter.unusedVariables false
set_option linter.unusedSimpArgs false
set_option maxRecDepth 8000
set_option maxHeartbeats 4000000
namespace Go.Proofs.YtkmfjlfejdoehaaGreat
open Go.Eng
abbrev MsT : Ty := .slice MsgT
def flN (p : Msg → Bool) (l : List Msg) (i : Nat) : List Msg := (l.take i).filter p
theorem flN_len (p : Msg → Bool) (l : List Msg) (i : Nat) : (flN p l i).length ≤ i := length_filter_take
theorem flN_in {p : Msg → Bool} {l : List Msg} {i : Nat} (h : i < l.length) (hr : p (l.getD i msg0) = true) : flN p l (i + 1) = flN p l i ++ [l.getD i msg0] := by
  rw [flN, filter_at msg0 h, if_pos hr]; rfl
theorem flN_out {p : Msg → Bool} {l : List Msg} {i : Nat} (h : i < l.length) (hr : p (l.getD i msg0) = false) : flN p l (i + 1) = flN p l i := by
  rw [flN, filter_at msg0 h, if_neg (by rw [hr]; simp), List.append_nil]; rfl
def withinK (lo hi k : List UInt8) : Bool := !sless k lo && ((hi == []) || sless k hi)
def wrP (lo hi : List UInt8) (m : Msg) : Bool := (m.1 == 0) && withinK lo hi m.2.1
end Go.Proofs.YtkmfjlfejdoehaaGreat

set_option linter.unusedVariables false
set_option linter.unusedSimpArgs false
set_option maxRecDepth 8000
set_option maxHeartbeats 4000000
namespace Go.Proofs.YtkmfjlfejdoehaaGreat
open Go.Eng
theorem fKeys1i : FnOk Tryz.prog 141 := ⟨_, Tryz.func141, by decide, rfl⟩
noncomputable def iKeys1i : Eng.Spec := inl tab (spOf []) k141 Tryz.f141
theorem pKeys1i : SpecOk Tryz.prog 141 iKeys1i := inl_ok tabOk spNil (by kernel_rfl) Tryz.func141 (by kernel_rfl)
theorem fPickedK : FnOk Tryz.prog 140 := ⟨_, Tryz.func140, by decide, rfl⟩
noncomputable def iPickedK : Eng.Spec := inl tab (spOf [(141, iKeys1i)]) k140 Tryz.f140
theorem pPickedK : SpecOk Tryz.prog 140 iPickedK := inl_ok tabOk (spCons (.inl ⟨pKeys1i, fKeys1i⟩) spNil) (by kernel_rfl) Tryz.func140 (by kernel_rfl)
def kyN (fs : List Msg) (j : Nat) : List (List UInt8) := (fs.take j).map (·.2.1)
theorem kyN_len (fs : List Msg) (j : Nat) : (kyN fs j).length ≤ j := by rw [kyN, List.length_map, List.length_take]; omega
theorem kyN_at {fs : List Msg} {j : Nat} (h : j < fs.length) : kyN fs (j + 1) = kyN fs j ++ [(fs.getD j msg0).2.1] := map_at msg0 h
def keysL (lo hi : List UInt8) (l : List Msg) : List (List UInt8) := (l.filter (wrP lo hi)).map (·.2.1)
def keysF (lo hi : List UInt8) (l : List Msg) : List (List UInt8) := (keysL lo hi l).foldl addK []
def sKeys : PSpec := ⟨[.d MsT, .d .str, .d .str], [⟨false, [.d (.slice .str)]⟩], fun x => List.length x.1 ≤ 100000, fun x => ((keysF x.2.1 x.2.2.1 x.1, ()), ())⟩
theorem fKeys : FnOk Tryz.prog 74 := ⟨_, Tryz.func74, by decide, rfl⟩
theorem pKeys : PSound Tryz.prog 74 sKeys := by
  refine psound (T := tab) (S := (spOf [(140, iPickedK), (141, iKeys1i), (142, iSort), (143, sCompact.spec)])) (keep := k74) (by kernel_rfl) tabOk (spCons (.inl ⟨pPickedK, fPickedK⟩) (spCons (.inl ⟨pKeys1i, fKeys1i⟩) (spCons (.inl ⟨pSort, fSort⟩) (spCons (.inl ⟨pCompact, fCompact⟩) spNil)))) (by kernel_rfl) Tryz.func74 (by kernel_rfl) (by decide) fun xs hg hp => ?_
  obtain ⟨l, lo, hi, ⟨⟩⟩ := xs
  change List Msg at l
  change List UInt8 at lo hi
  change l.length ≤ 100000 at hp
  clear hg
  show vfun tab _ k74 Tryz.f74 [.sl MsgT l, .s lo, .s hi] [] _
  refine Ev.out ?_
  repeat' (first | ((with_reducible refine Ev.mk ?_); conv => whnf) | (with_reducible refine And.intro ?_ ?_) | (intro h))
  all_goals (try simp only [decide_eq_true_eq, decide_eq_false_iff_not, beq_iff_eq, bne_iff_ne, beq_eq_false_iff_ne, bne_eq_false_iff_eq, Int.toNat_natCast, ge_iff_le, gt_iff_lt, Bool.not_eq_true', Bool.not_eq_false', Int.not_lt, Int.not_le, ne_eq] at *)
  all_goals (try dsimp only [Ty.den, Ty.dflt, MsgT] at *)
  all_goals (try simp only [eq4, ne4, eq3, ne3, eq2, ne2, Prod.eta, List.length_cons, List.length_nil, List.length_append, Nat.zero_add] at *)
  all_goals (try simp (disch := omega) only [wrap64] at *)
  all_goals try first | exact leafDraw (by kernel_rfl) | exact Leaf.mk trivial | (refine Leaf.mk ?_; omega) | (refine Leaf.mk ?_; unfold maxLen; omega)
  refine LoopVC.weak [(.slot 5, .nil 34 MsgT)] (fun i : Nat => [(10, .i .i64 i)]) (fun i => [(18, .arr 34 MsgT (flN (wrP lo hi) l i))]) (fun i => i ≤ l.length) (fun i => l.length - i) 0 (Ev.mk ?_)
  (conv => whnf)
  refine ⟨Leaf.mk rfl, Leaf.mk ?_, ?_⟩
  · omega
  intro i hii
  have hfl := flN_len (wrP lo hi) l i
  repeat' (first | ((with_reducible refine Ev.mk ?_); conv => whnf) | (with_reducible refine And.intro ?_ ?_) | (intro h))
  all_goals (try simp only [decide_eq_true_eq, decide_eq_false_iff_not, beq_iff_eq, bne_iff_ne, beq_eq_false_iff_ne, bne_eq_false_iff_eq, Int.toNat_natCast, ge_iff_le, gt_iff_lt, Bool.not_eq_true', Bool.not_eq_false', Int.not_lt, Int.not_le, ne_eq] at *)
  all_goals (try dsimp only [Ty.den, Ty.dflt, MsgT, sAboutR, sAbout] at *)
  all_goals (try simp only [eq4, ne4, eq3, ne3, eq2, ne2, Prod.eta, List.length_cons, List.length_nil, List.length_append, Nat.zero_add] at *)
  all_goals (try simp (disch := omega) only [wrap64] at *)
  all_goals try first | exact leafDraw (by kernel_rfl) | exact Leaf.mk trivial | (refine Leaf.mk ?_; omega) | (refine Leaf.mk ?_; unfold maxLen; omega)
  all_goals try first
    | exact Leaf.mk trivial
    | (refine Leaf.mk ?_; omega)
    | (refine Leaf.mk ?_; unfold maxLen; omega)
  all_goals try
    have hat := fun b hb => flN_in (p := wrP lo hi) (l := l) (i := i) b hb
    have hao := fun b hb => flN_out (p := wrP lo hi) (l := l) (i := i) b hb
    generalize l.getD i msg0 = m at *
    first
    | (refine Leaf.mk ⟨i + 1, ?_, by omega, by omega⟩
       rw [hat (by omega) (by simp only [wrP, withinK, Bool.and_eq_true, Bool.or_eq_true, beq_iff_eq, Bool.not_eq_true']; exact ⟨‹_›, ‹_›, by first | exact .inl ‹_› | exact .inr ‹_›⟩)]; rfl)
    | (refine Leaf.mk ⟨i + 1, ?_, by omega, by omega⟩
       rw [hao (by omega) (by simp_all [wrP, withinK])]; rfl)
  have hil : i = l.length := by omega
  subst hil
  have hK : flN (wrP lo hi) l l.length = l.filter (wrP lo hi) := by rw [flN, take_all (Nat.le_refl _)]
  rw [hK] at *
  clear hK
  have hKl : keysL lo hi l = (l.filter (wrP lo hi)).map (·.2.1) := rfl
  have hfl : (l.filter (wrP lo hi)).length ≤ l.length := List.length_filter_le _ _
  generalize l.filter (wrP lo hi) = fs at *
  refine LoopVC.weak [(.slot 12, .frz), (.slot 7, .nil 9 .str)] (fun j : Nat => [(14, .i .i64 j)]) (fun j => [(0, .arr 9 .str (kyN fs j))]) (fun j => j ≤ fs.length) (fun j => fs.length - j) 0 (Ev.mk ?_)
  (conv => whnf)
  refine ⟨Leaf.mk ?_, Leaf.mk ?_, ?_⟩
  · rfl
  · omega
  intro j hj
  have hml := kyN_len fs j
  have hsl := sortStr_len (kyN fs j)
  repeat' (first | ((with_reducible refine Ev.mk ?_); conv => whnf) | (with_reducible refine And.intro ?_ ?_) | (intro h))
  all_goals (try simp only [decide_eq_true_eq, decide_eq_false_iff_not, beq_iff_eq, bne_iff_ne, beq_eq_false_iff_ne, bne_eq_false_iff_eq, Int.toNat_natCast, ge_iff_le, gt_iff_lt, Bool.not_eq_true', Bool.not_eq_false', Int.not_lt, Int.not_le, ne_eq] at *)
  all_goals (try dsimp only [Ty.den, Ty.dflt, MsgT] at *)
  all_goals (try simp only [eq4, ne4, eq3, ne3, eq2, ne2, Prod.eta, List.length_cons, List.length_nil, List.length_append, Nat.zero_add] at *)
  all_goals (try simp (disch := omega) only [wrap64] at *)
  all_goals try first | exact leafDraw (by kernel_rfl) | exact Leaf.mk trivial | (refine Leaf.mk ?_; omega) | (refine Leaf.mk ?_; unfold maxLen; omega)
  all_goals first
    | (refine Leaf.mk ?_; omega)
    | (refine Leaf.mk ?_; unfold maxLen; omega)
    | exact Leaf.mk (show (sortStr (kyN fs j)).length ≤ 1000000 by omega)
    | (refine Leaf.mk ⟨j + 1, ?_, by omega, by omega⟩
       first
       | (rw [kyN_at (by omega), wrap64 (by omega)]; rfl; done)
       | (rw [kyN_at (by omega)]; rfl))
    | (refine Leaf.mk (ret1 (show compL (sortStr (kyN fs j)) = keysF lo hi l from ?_))
       rw [keysF, sortU_fold, sortU, hKl, kyN, take_all (by omega)])
end Go.Proofs.YtkmfjlfejdoehaaGreat

set_option linter.unusedVariables false
set_option linter.unusedSimpArgs false
set_option maxRecDepth 8000
set_option maxHeartbeats 4000000
namespace Go.Proofs.YtkmfjlfejdoehaaGreat
open Go.Eng
theorem all_at' {α : Type} {p : α → Bool} {xs : List α} {i : Nat} (d : α) (h : i < xs.length) : (xs.take (i + 1)).all p = ((xs.take i).all p && p (xs.getD i d)) := by
  rw [take_at d h, List.all_append]; simp
theorem all_no' {α : Type} {p : α → Bool} {xs : List α} {i : Nat} (d : α) (h : i < xs.length) (hn : p (xs.getD i d) = false) : xs.all p = false := by
  have : ¬ xs.all p = true := fun hc => by
    rw [List.all_eq_true] at hc
    have := hc _ (getD_mem d h)
    rw [hn] at this; exact absurd this (by simp)
  simpa using this
def lightM1 (m : Msg) : Bool := decide (m.2.1.length ≤ 100 ∧ m.2.2.2.2.2.length ≤ 100)
def lightM (l : List Msg) (most : Int) : Bool := decide ((l.length : Int) ≤ most) && l.all lightM1
def sLightM : PSpec := ⟨[.d MsT, .d (.int .i64)], [⟨false, [.d .bool]⟩], fun _ => True, fun x => ((lightM x.1 x.2.1, ()), ())⟩
theorem fLightM : FnOk Tryz.prog 11 := ⟨_, Tryz.func11, by decide, rfl⟩
theorem pLightM : PSound Tryz.prog 11 sLightM := by
  refine psound (T := tab) (S := (spOf [])) (keep := k11) (by kernel_rfl) tabOk spNil (by kernel_rfl) Tryz.func11 (by kernel_rfl) (by decide) fun xs hg hp => ?_
  obtain ⟨xs, most, ⟨⟩⟩ := xs
  obtain ⟨⟨hl, hx⟩, -⟩ := hg
  change List Msg at xs
  change Int at most
  change xs.length ≤ _ at hl
  have hl := len63 hl
  clear hp
  show vfun tab _ k11 Tryz.f11 [.sl MsgT xs, .i .i64 most] [] _
  refine Ev.out ?_
  repeat' (first | ((with_reducible refine Ev.mk ?_); conv => whnf) | (with_reducible refine And.intro ?_ ?_) | (intro h))
  all_goals (try simp only [decide_eq_true_eq, decide_eq_false_iff_not, beq_iff_eq, bne_iff_ne, beq_eq_false_iff_ne, bne_eq_false_iff_eq, Int.toNat_natCast, ge_iff_le, gt_iff_lt, Bool.not_eq_true', Bool.not_eq_false', Int.not_lt, Int.not_le, ne_eq] at *)
  all_goals (try dsimp only [Ty.den, Ty.dflt, MsgT] at *)
  all_goals (try simp only [eq4, ne4, eq3, ne3, eq2, ne2, Prod.eta, List.length_cons, List.length_nil, List.length_append, Nat.zero_add] at *)
  all_goals (try simp (disch := omega) only [wrap64] at *)
  all_goals try first | exact leafDraw (by kernel_rfl) | exact Leaf.mk trivial | (refine Leaf.mk ?_; omega) | (refine Leaf.mk ?_; unfold maxLen; omega)
  · refine Leaf.mk (ret1 (show false = lightM xs most from ?_))
    rw [lightM, decide_eq_false (by omega), Bool.false_and]
  refine LoopVC.on (fun i : Nat => [(5, .i .i64 i)]) (fun _ => []) (fun i => i ≤ xs.length ∧ (xs.take i).all lightM1 = true) (fun i => xs.length - i) 0 rfl ⟨by omega, rfl⟩ ?_
  intro i ⟨hi, he⟩
  repeat' (first | ((with_reducible refine Ev.mk ?_); conv => whnf) | (with_reducible refine And.intro ?_ ?_) | (intro h))
  all_goals (try simp only [decide_eq_true_eq, decide_eq_false_iff_not, beq_iff_eq, bne_iff_ne, beq_eq_false_iff_ne, bne_eq_false_iff_eq, Int.toNat_natCast, ge_iff_le, gt_iff_lt, Bool.not_eq_true', Bool.not_eq_false', Int.not_lt, Int.not_le, ne_eq] at *)
  all_goals (try dsimp only [Ty.den, Ty.dflt, MsgT] at *)
  all_goals (try simp only [eq4, ne4, eq3, ne3, eq2, ne2, Prod.eta, List.length_cons, List.length_nil, List.length_append, Nat.zero_add] at *)
  all_goals (try simp (disch := omega) only [wrap64] at *)
  all_goals try first | exact leafDraw (by kernel_rfl) | exact Leaf.mk trivial | (refine Leaf.mk ?_; omega) | (refine Leaf.mk ?_; unfold maxLen; omega)
  all_goals first
    | (refine Leaf.mk (ret1 (show false = lightM xs most from ?_))
       rw [lightM, all_no' msg0 (by omega) (show lightM1 (xs.getD i msg0) = false from decide_eq_false (fun hc => by have h1 := hc.1; have h2 := hc.2; dsimp only [msg0] at *; omega)), Bool.and_false]
       done)
    | (refine Leaf.mk ⟨i + 1, rfl, ⟨by omega, ?_⟩, by omega⟩
       rw [all_at' msg0 (by omega), he, Bool.true_and]; exact decide_eq_true ⟨by dsimp only [msg0] at *; omega, by dsimp only [msg0] at *; omega⟩)
    | (refine Leaf.mk (ret1 (show true = lightM xs most from ?_))
       rw [List.take_of_length_le (by omega)] at he
       rw [lightM, he, Bool.and_true, decide_eq_true (by omega)]
       done)
set_option synthInstance.maxHeartbeats 400000
instance decM1 : DecidableEq (Bool × List UInt8) := inferInstance
instance decM2 : DecidableEq (Int × Bool × List UInt8) := inferInstance
instance decM3 : DecidableEq (Int × Int × Bool × List UInt8) := inferInstance
instance decM4 : DecidableEq (List UInt8 × Int × Int × Bool × List UInt8) := inferInstance
instance decMsg : DecidableEq Msg := inferInstanceAs (DecidableEq (Int × List UInt8 × Int × Int × Bool × List UInt8))
end Go.Proofs.YtkmfjlfejdoehaaGreat

set_option linter.unusedVariables false
set_option linter.unusedSimpArgs false
set_option maxRecDepth 8000
set_option maxHeartbeats 4000000
namespace Go.Proofs.YtkmfjlfejdoehaaGreat
open Go.Eng
def keyIs (k : List UInt8) (s : Stk) : Bool := s.1 == k
def lLPlace1 : LSpec := ⟨StT, .bool, [.bx .str], fun s c => keyIs c.1 s⟩
theorem fLPlace1 : FnOk Tryz.prog 149 := ⟨_, Tryz.func149, by decide, rfl⟩
theorem pLPlace1 : PSound Tryz.prog 149 lLPlace1.p := by
  refine psound (T := tab) (S := (spOf [])) (keep := k149) (by kernel_rfl) tabOk spNil (by kernel_rfl) Tryz.func149 (by kernel_rfl) (by decide) fun xs hg hp => ?_
  obtain ⟨⟨key, xs⟩, k, ⟨⟩⟩ := xs
  show vfun tab _ k149 Tryz.f149 [.agg [.s key, .sl VerT xs], .rp [.s k]] [] _
  refine Ev.out ?_
  repeat' (first | ((with_reducible refine Ev.mk ?_); conv => whnf) | (with_reducible refine And.intro ?_ ?_) | (intro h))
  all_goals exact Leaf.mk rfl
def plL (l : List Stk) (k : List UInt8) : Int := idxF (keyIs k) l 0
def sLPlace : PSpec := ⟨[.d SsT, .d .str], [⟨false, [.d (.int .i64)]⟩], fun _ => True, fun x => ((plL x.1 x.2.1, ()), ())⟩
theorem fLPlace : FnOk Tryz.prog 82 := ⟨_, Tryz.func82, by decide, rfl⟩
theorem pLPlace : PSound Tryz.prog 82 sLPlace := by
  refine psound (T := tab) (S := (spOf [(148, sIndexFuncT.spec (lsOf [(149, lLPlace1)]))])) (keep := k82) (by kernel_rfl) tabOk (spCons (pOk pIndexFuncT fIndexFuncT (by decide) ((lsCons ⟨pLPlace1, fLPlace1⟩ lsNil))) spNil) (by kernel_rfl) Tryz.func82 (by kernel_rfl) (by decide) fun xs hg hp => ?_
  obtain ⟨l, k, ⟨⟩⟩ := xs
  change List Stk at l
  change List UInt8 at k
  show vfun tab _ k82 Tryz.f82 [.sl StT l, .s k] [] _
  refine Ev.out ?_
  repeat' (first | ((with_reducible refine Ev.mk ?_); conv => whnf) | (with_reducible refine And.intro ?_ ?_) | (intro h))
  all_goals first | exact Leaf.mk trivial | exact Leaf.mk rfl
def findF (l : List Stk) (k : List UInt8) : Stk × Bool := if plL l k < 0 then ((k, []), false) else (l.getD (plL l k).toNat ([], []), true)
theorem retF {u v : Stk × Bool} (h : u = v) : (some ((u.1, ()), (u.2, ()), ()) : Option ((Stk × Unit) × (Bool × Unit) × Unit)) = some ((v.1, ()), (v.2, ()), ()) := by rw [h]
def sLFind : PSpec := ⟨[.st SsT, .d .str], [⟨true, [.d StT]⟩, ⟨false, [.d .bool]⟩], fun _ => True, fun x => (((findF x.1 x.2.1).1, ()), ((findF x.1 x.2.1).2, ()), ())⟩
theorem fLFind : FnOk Tryz.prog 19 := ⟨_, Tryz.func19, by decide, rfl⟩
theorem pLFind : PSound Tryz.prog 19 sLFind := by
  refine psound (T := tab) (S := (spOf [(82, sLPlace.spec (lsOf []))])) (keep := k19) (by kernel_rfl) tabOk (spCons (pOk pLPlace fLPlace (by decide) lsNil) spNil) (by kernel_rfl) Tryz.func19 (by kernel_rfl) (by decide) fun xs hg hp => ?_
  obtain ⟨l, k, ⟨⟩⟩ := xs
  change List Stk at l
  change List UInt8 at k
  have hz := idxF_pos (keyIs k) l 0
  rw [show idxF (keyIs k) l 0 = plL l k from rfl] at hz
  show vfun tab _ k19 Tryz.f19 [.agg [.sl StT l], .s k] [] _
  refine Ev.out ?_
  repeat' (first | ((with_reducible refine Ev.mk ?_); conv => whnf) | (with_reducible refine And.intro ?_ ?_) | (intro h))
  all_goals (try simp only [decide_eq_true_eq, decide_eq_false_iff_not, beq_iff_eq, bne_iff_ne, beq_eq_false_iff_ne, bne_eq_false_iff_eq, Int.toNat_natCast, ge_iff_le, gt_iff_lt, Bool.not_eq_true', Bool.not_eq_false', Int.not_lt, Int.not_le, ne_eq] at *)
  all_goals (try dsimp only [Ty.den, Ty.dflt, StT, sLPlace] at *)
  all_goals (try simp only [eq4, ne4, eq3, ne3, eq2, ne2, Prod.eta, List.length_cons, List.length_nil, List.length_append, Nat.zero_add] at *)
  all_goals (try simp (disch := omega) only [wrap64] at *)
  all_goals try first | exact leafDraw (by kernel_rfl) | exact Leaf.mk trivial | (refine Leaf.mk ?_; omega) | (refine Leaf.mk ?_; unfold maxLen; omega)
  all_goals first
    | (refine Leaf.mk ?_; omega)
    | (refine Leaf.mk (retF (u := ((k, []), false)) (v := findF l k) ?_)
       rw [findF, if_pos (by assumption)])
    | (refine Leaf.mk (retF (u := (((l.getD (plL l k).toNat stk0).1, (l.getD (plL l k).toNat stk0).2), true)) (v := findF l k) ?_)
       rw [findF, if_neg (by omega)])
def inR (lo hi : List UInt8) (s : Stk) : Bool := withinK lo hi s.1
def fsN (p : Stk → Bool) (l : List Stk) (i : Nat) : List Stk := (l.take i).filter p
theorem fsN_len (p : Stk → Bool) (l : List Stk) (i : Nat) : (fsN p l i).length ≤ i := length_filter_take
theorem fsN_in {p : Stk → Bool} {l : List Stk} {i : Nat} (h : i < l.length) (hr : p (l.getD i stk0) = true) : fsN p l (i + 1) = fsN p l i ++ [l.getD i stk0] := by
  rw [fsN, filter_at stk0 h, if_pos hr]; rfl
theorem fsN_out {p : Stk → Bool} {l : List Stk} {i : Nat} (h : i < l.length) (hr : p (l.getD i stk0) = false) : fsN p l (i + 1) = fsN p l i := by
  rw [fsN, filter_at stk0 h, if_neg (by rw [hr]; simp), List.append_nil]; rfl
def sLRange : PSpec := ⟨[.st SsT, .d .str, .d .str], [⟨false, [.o 38 StT]⟩], fun x => List.length x.1 ≤ 100000, fun x => ((List.filter (α := Stk) (inR x.2.1 x.2.2.1) x.1, ()), ())⟩
theorem fLRange : FnOk Tryz.prog 22 := ⟨_, Tryz.func22, by decide, rfl⟩
theorem pLRange : PSound Tryz.prog 22 sLRange := by
  refine psound (T := tab) (S := (spOf [])) (keep := k22) (by kernel_rfl) tabOk spNil (by kernel_rfl) Tryz.func22 (by kernel_rfl) (by decide) fun xs hg hp => ?_
  obtain ⟨l, lo, hi, ⟨⟩⟩ := xs
  change List Stk at l
  change List UInt8 at lo hi
  change l.length ≤ 100000 at hp
  clear hg
  show vfun tab _ k22 Tryz.f22 [.agg [.sl StT l], .s lo, .s hi] [] _
  refine Ev.out ?_
  repeat' (first | ((with_reducible refine Ev.mk ?_); conv => whnf) | (with_reducible refine And.intro ?_ ?_) | (intro h))
  all_goals (try simp only [decide_eq_true_eq, decide_eq_false_iff_not, beq_iff_eq, bne_iff_ne, beq_eq_false_iff_ne, bne_eq_false_iff_eq, Int.toNat_natCast, ge_iff_le, gt_iff_lt, Bool.not_eq_true', Bool.not_eq_false', Int.not_lt, Int.not_le, ne_eq] at *)
  all_goals (try dsimp only [Ty.den, Ty.dflt, StT] at *)
  all_goals (try simp only [eq4, ne4, eq3, ne3, eq2, ne2, Prod.eta, List.length_cons, List.length_nil, List.length_append, Nat.zero_add] at *)
  all_goals (try simp (disch := omega) only [wrap64] at *)
  all_goals try first | exact leafDraw (by kernel_rfl) | exact Leaf.mk trivial | (refine Leaf.mk ?_; omega) | (refine Leaf.mk ?_; unfold maxLen; omega)
  refine LoopVC.weak [(.slot 7, .nil 38 StT)] (fun i : Nat => [(13, .i .i64 i)]) (fun i => [(0, .arr 38 StT (fsN (inR lo hi) l i))]) (fun i => i ≤ l.length) (fun i => l.length - i) 0 (Ev.mk ?_)
  (conv => whnf)
  refine ⟨Leaf.mk rfl, Leaf.mk ?_, ?_⟩
  · omega
  intro i hii
  have hfl := fsN_len (inR lo hi) l i
  repeat' (first | ((with_reducible refine Ev.mk ?_); conv => whnf) | (with_reducible refine And.intro ?_ ?_) | (intro h))
  all_goals (try simp only [decide_eq_true_eq, decide_eq_false_iff_not, beq_iff_eq, bne_iff_ne, beq_eq_false_iff_ne, bne_eq_false_iff_eq, Int.toNat_natCast, ge_iff_le, gt_iff_lt, Bool.not_eq_true', Bool.not_eq_false', Int.not_lt, Int.not_le, ne_eq] at *)
  all_goals (try dsimp only [Ty.den, Ty.dflt, StT] at *)
  all_goals (try simp only [eq4, ne4, eq3, ne3, eq2, ne2, Prod.eta, List.length_cons, List.length_nil, List.length_append, Nat.zero_add] at *)
  all_goals (try simp (disch := omega) only [wrap64] at *)
  all_goals try first | exact leafDraw (by kernel_rfl) | exact Leaf.mk trivial | (refine Leaf.mk ?_; omega) | (refine Leaf.mk ?_; unfold maxLen; omega)
  all_goals first
    | (refine Leaf.mk ?_; omega)
    | (refine Leaf.mk ?_; unfold maxLen; omega)
    | (refine Leaf.mk ⟨i + 1, ?_, by omega, by omega⟩
       first
       | (rw [fsN_in (by omega) (by simp only [inR, withinK, Bool.and_eq_true, Bool.or_eq_true, beq_iff_eq, Bool.not_eq_true']; exact ⟨‹_›, by first | exact .inl ‹_› | exact .inr ‹_›⟩)]; rfl)
       | (rw [fsN_in (by omega) ‹withinK _ _ _ = true›]; rfl)
       | (rw [fsN_out (by omega) ‹withinK _ _ _ = false›]; rfl)
       | (rw [fsN_out (by omega) (by simp_all [inR, withinK])]; rfl))
    | (refine Leaf.mk (ret1 (show fsN (inR lo hi) l i = l.filter (inR lo hi) from ?_))
       rw [fsN, take_all (by omega)])
theorem pOverlapsT : XOk Tryz.prog 145 xOverlaps := xOverlaps_ok tabOk Tryz.func145 (by kernel_rfl) (by kernel_rfl) (by kernel_rfl) (by kernel_rfl) (t := 22) rfl rfl (by rfl)
def sInsertT : OSpec := ⟨38, StT, [.d (.int .i64), .o 38 StT], fun xs y => 0 ≤ y.1 ∧ y.1 ≤ (xs.length : Int) ∧ xs.length + List.length y.2.1 ≤ 1000000, fun xs y => xs.take y.1.toNat ++ (y.2.1 ++ xs.drop y.1.toNat)⟩
theorem fInsertT : FnOk Tryz.prog 77 := ⟨_, Tryz.func77, by decide, rfl⟩
theorem pInsertT : SpecOk Tryz.prog 77 sInsertT.spec := by
  refine oOk (T := tab) (S := (spOf [(145, xOverlaps)])) (keep := k77) (by kernel_rfl) tabOk (spCons (.inr pOverlapsT) spNil) (by kernel_rfl) Tryz.func77 (by kernel_rfl) (by decide) (by decide) fun xs ys k hg hgt hmax hp => ?_
  obtain ⟨i, vs, ⟨⟩⟩ := ys
  change List Stk at xs
  change List Stk at vs
  change Int at i
  change 0 ≤ i ∧ i ≤ (xs.length : Int) ∧ xs.length + vs.length ≤ 1000000 at hp
  clear hg hgt
  obtain ⟨i, rfl⟩ := Int.eq_ofNat_of_zero_le hp.1
  show vfun tab _ k77 Tryz.f77 [.vw 0 StT 0 xs.length true, .i .i64 i, .own 1] [(0, .raw 38 StT (xs.map some ++ List.replicate k (none : Option (Ty.den StT)))), (1, .arr 38 StT vs)] _
  refine Ev.out ?_
  repeat' (first | ((with_reducible refine Ev.mk ?_); conv => whnf) | (with_reducible refine And.intro ?_ ?_) | (intro h))
  all_goals (try simp only [decide_eq_true_eq, decide_eq_false_iff_not, beq_iff_eq, bne_iff_ne, beq_eq_false_iff_ne, bne_eq_false_iff_eq, Int.toNat_natCast, ge_iff_le, gt_iff_lt, Bool.not_eq_true', Bool.not_eq_false', Int.not_lt, Int.not_le, ne_eq] at *)
  all_goals (try dsimp only [Ty.den, Ty.dflt, StT] at *)
  all_goals (try simp only [eq4, ne4, eq3, ne3, eq2, ne2, Prod.eta, List.length_cons, List.length_nil, List.length_append, Nat.zero_add] at *)
  all_goals (try simp (disch := omega) only [wrap64] at *)
  all_goals (try simp only [Int.sub_zero, Int.toNat_natCast, Int.toNat_sub, Int.toNat_zero, Nat.zero_add, toNat_add', toNat_addsub, toNat_subadd, List.length_map, List.length_append, List.length_replicate, List.length_take, List.length_drop] at *)
  all_goals first | omega | skip
  all_goals try first | exact leafDraw (by kernel_rfl) | exact Leaf.mk trivial | (refine Leaf.mk ?_; omega) | (refine Leaf.mk ?_; unfold maxLen; omega)
  all_goals first
    | (refine Leaf.mk ?_; unfold maxLen at *; omega)
    | skip
  · refine Leaf.mk (readO_vw.trans (congrArg some (?_ : _ = (xs.take i ++ (vs ++ xs.drop i)).map some)))
    obtain rfl : vs = [] := List.eq_nil_of_length_eq_zero (by omega)
    change ((xs.map some ++ List.replicate k none).take _) = _
    rw [raw_take (by omega)]
    simp
  · refine Leaf.mk (readO_vw.trans (congrArg some (?_ : _ = (xs.take i ++ (vs ++ xs.drop i)).map some)))
    obtain rfl : i = xs.length := by omega
    change (List.take (α := Option Stk) _ _) = _
    rw [raw_take (by omega), tk3 (by simp)]
    simp
  · refine Leaf.mk (readO_vw.trans (congrArg some (?_ : _ = (xs.take i ++ (vs ++ xs.drop i)).map some)))
    obtain rfl : i = xs.length := by omega
    change (List.take (α := Option Stk) _ _) = _
    rw [raw_take (by omega), tk3 (by simp)]
    simp
  · refine Leaf.mk (?_ : (List.take _ (List.drop _ (xs.map some ++ List.replicate k none))).all Option.isSome = true); rw [raw_cut (by omega)]; exact raw_all
  · exact Leaf.mk (readO_vw.trans (congrArg some (ins_new (by omega) (by omega) (by omega))))
  · refine Leaf.mk (?_ : (List.take _ (List.drop _ (xs.map some ++ List.replicate k none))).all Option.isSome = true); rw [raw_cut (by omega)]; exact raw_all
  · exact Leaf.mk (readO_vw.trans (congrArg some (ins_in (by omega) (by omega))))
def lastL (k : List UInt8) (l : List Stk) : Nat → Nat
  | 0 => 0
  | i + 1 => if sless (l.getD i stk0).1 k = true then i + 1 else lastL k l i
theorem lastL_le (k : List UInt8) (l : List Stk) : ∀ i, lastL k l i ≤ i
  | 0 => Nat.le_refl _
  | i + 1 => by
    have := lastL_le k l i
    rw [lastL]; split <;> omega
def withF (l : List Stk) (k : List UInt8) : List Stk := if plL l k < 0 then l.take (lastL k l l.length) ++ (k, []) :: l.drop (lastL k l l.length) else l
def sLWith : PSpec := ⟨[.d SsT, .d .str], [⟨false, [.d SsT]⟩], fun x => List.length x.1 ≤ 100000, fun x => ((withF x.1 x.2.1, ()), ())⟩
theorem fLWith : FnOk Tryz.prog 66 := ⟨_, Tryz.func66, by decide, rfl⟩
theorem pLWith : PSound Tryz.prog 66 sLWith := by
  refine psound (T := tab) (S := (spOf [(82, sLPlace.spec (lsOf [])), (92, sCloneT.spec (lsOf [])), (77, sInsertT.spec)])) (keep := k66) (by kernel_rfl) tabOk (spCons (pOk pLPlace fLPlace (by decide) lsNil) (spCons (pOk pCloneT fCloneT (by decide) lsNil) (spCons (.inl ⟨pInsertT, fInsertT⟩) spNil))) (by kernel_rfl) Tryz.func66 (by kernel_rfl) (by decide) fun xs hg hp => ?_
  obtain ⟨l, k, ⟨⟩⟩ := xs
  change List Stk at l
  change List UInt8 at k
  change l.length ≤ 100000 at hp
  clear hg
  show vfun tab _ k66 Tryz.f66 [.sl StT l, .s k] [] _
  refine Ev.out ?_
  repeat' (first | ((with_reducible refine Ev.mk ?_); conv => whnf) | (with_reducible refine And.intro ?_ ?_) | (intro h))
  all_goals (try simp only [decide_eq_true_eq, decide_eq_false_iff_not, beq_iff_eq, bne_iff_ne, beq_eq_false_iff_ne, bne_eq_false_iff_eq, Int.toNat_natCast, ge_iff_le, gt_iff_lt, Bool.not_eq_true', Bool.not_eq_false', Int.not_lt, Int.not_le, ne_eq] at *)
  all_goals (try dsimp only [Ty.den, Ty.dflt, StT, sLPlace] at *)
  all_goals (try simp only [eq4, ne4, eq3, ne3, eq2, ne2, Prod.eta, List.length_cons, List.length_nil, List.length_append, Nat.zero_add] at *)
  all_goals (try simp (disch := omega) only [wrap64] at *)
  all_goals try first | exact leafDraw (by kernel_rfl) | exact Leaf.mk trivial | (refine Leaf.mk ?_; omega) | (refine Leaf.mk ?_; unfold maxLen; omega)
  · exact Leaf.mk (ret1 (show l = withF l k by rw [withF, if_neg (by omega)]))
  refine LoopVC.on (fun n : Nat => [(5, .i .i64 n)]) (fun _ => []) (fun n => n ≤ l.length ∧ lastL k l l.length = lastL k l n) (fun n => n) l.length ?_ ⟨Nat.le_refl _, rfl⟩ ?_
  · rfl
  intro n ⟨hn, he⟩
  repeat' (first | ((with_reducible refine Ev.mk ?_); conv => whnf) | (with_reducible refine And.intro ?_ ?_) | (intro h))
  all_goals (try simp only [decide_eq_true_eq, decide_eq_false_iff_not, beq_iff_eq, bne_iff_ne, beq_eq_false_iff_ne, bne_eq_false_iff_eq, Int.toNat_natCast, ge_iff_le, gt_iff_lt, Bool.not_eq_true', Bool.not_eq_false', Int.not_lt, Int.not_le, ne_eq] at *)
  all_goals (try dsimp only [Ty.den, Ty.dflt, StT] at *)
  all_goals (try simp only [eq4, ne4, eq3, ne3, eq2, ne2, Prod.eta, List.length_cons, List.length_nil, List.length_append, Nat.zero_add] at *)
  all_goals (try simp (disch := omega) only [wrap64] at *)
  all_goals try first | exact leafDraw (by kernel_rfl) | exact Leaf.mk trivial | (refine Leaf.mk ?_; omega) | (refine Leaf.mk ?_; unfold maxLen; omega)
  all_goals try first
    | exact Leaf.mk (show l.length ≤ 100000 from hp)
    | exact Leaf.mk (show l.length ≤ 1000000 by omega)
    | (refine Leaf.mk (show (0 : Int) ≤ ((n : Nat) : Int) ∧ ((n : Nat) : Int) ≤ ((l.length : Nat) : Int) ∧ l.length + 1 ≤ 1000000 from ?_); omega)
  all_goals try
    obtain ⟨m, rfl⟩ : ∃ m, n = m + 1 := ⟨n - 1, by omega⟩
    rw [show (((m + 1 : Nat) : Int) - 1).toNat = m by omega] at h
    rw [lastL] at he
  · rw [if_neg (by rw [show sless (l.getD m stk0).1 k = false from h]; simp)] at he
    refine Leaf.mk (Exists.intro m ⟨?_, ⟨by omega, he⟩, by omega⟩)
    rw [show (((m + 1 : Nat) : Int) - 1) = (m : Int) by omega]; rfl
  · rw [if_pos (show sless (l.getD m stk0).1 k = true from h)] at he
    refine Leaf.mk (ret1 (show l.take (((m + 1 : Nat) : Int)).toNat ++ ([(k, [])] ++ l.drop (((m + 1 : Nat) : Int)).toNat) = withF l k from ?_))
    rw [Int.toNat_natCast, withF, if_pos (by assumption), he]; rfl
  · obtain rfl : n = 0 := by omega
    refine Leaf.mk (ret1 (show l.take (((0 : Nat) : Int)).toNat ++ ([(k, [])] ++ l.drop (((0 : Nat) : Int)).toNat) = withF l k from ?_))
    rw [Int.toNat_natCast, withF, if_pos (by assumption), he]; rfl
end Go.Proofs.YtkmfjlfejdoehaaGreat
