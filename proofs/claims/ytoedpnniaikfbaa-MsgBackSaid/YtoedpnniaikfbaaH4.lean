import Derived.Test.YtoedpnniaikfbaaH3



set_option linter.unusedVariables false
set_option linter.unusedSimpArgs false
set_option maxRecDepth 8000
set_option maxHeartbeats 4000000
namespace Go.Proofs.Ytoedpnniaikfbaa
open Go.Eng
abbrev MsT : Ty := .slice MsgT
def flN (p : Msg → Bool) (l : List Msg) (i : Nat) : List Msg := (l.take i).filter p
theorem flN_len (p : Msg → Bool) (l : List Msg) (i : Nat) : (flN p l i).length ≤ i := length_filter_take
theorem flN_in {p : Msg → Bool} {l : List Msg} {i : Nat} (h : i < l.length) (hr : p (l.getD i msg0) = true) : flN p l (i + 1) = flN p l i ++ [l.getD i msg0] := by
  rw [flN, filter_at msg0 h, if_pos hr]; rfl
theorem flN_out {p : Msg → Bool} {l : List Msg} {i : Nat} (h : i < l.length) (hr : p (l.getD i msg0) = false) : flN p l (i + 1) = flN p l i := by
  rw [flN, filter_at msg0 h, if_neg (by rw [hr]; simp), List.append_nil]; rfl
def sPicked : PSpec := ⟨[.d MsT, .lam MsgT .bool], [⟨false, [.d MsT]⟩], fun x => List.length x.1 ≤ 100000, fun x => ((List.filter (α := Msg) x.2.1 x.1, ()), ())⟩
theorem fPicked : FnOk Try.prog 71 := ⟨_, Try.func71, by decide, rfl⟩
theorem pPicked : PSound Try.prog 71 sPicked := by
  refine psound (T := tab) (S := (spOf [])) (keep := k71) (by kernel_rfl) tabOk spNil (by kernel_rfl) Try.func71 (by kernel_rfl) (by decide) fun xs hg hp => ?_
  obtain ⟨l, p, ⟨⟩⟩ := xs
  change List Msg at l
  change Msg → Bool at p
  change l.length ≤ 100000 at hp
  clear hg
  show vfun tab _ k71 Try.f71 [.sl MsgT l, .lam MsgT .bool p] [] _
  refine Ev.out ?_
  repeat' (first | ((with_reducible refine Ev.mk ?_); conv => whnf) | (with_reducible refine And.intro ?_ ?_) | (intro h))
  all_goals (try simp only [decide_eq_true_eq, decide_eq_false_iff_not, beq_iff_eq, bne_iff_ne, beq_eq_false_iff_ne, bne_eq_false_iff_eq, Int.toNat_natCast, ge_iff_le, gt_iff_lt, Bool.not_eq_true', Bool.not_eq_false', Int.not_lt, Int.not_le, ne_eq] at *)
  all_goals (try dsimp only [Ty.den, Ty.dflt, MsgT] at *)
  all_goals (try simp only [eq4, ne4, eq3, ne3, eq2, ne2, Prod.eta, List.length_cons, List.length_nil, List.length_append, Nat.zero_add] at *)
  all_goals (try simp (disch := omega) only [wrap64] at *)
  all_goals try first | exact leafDraw (by kernel_rfl) | exact Leaf.mk trivial | (refine Leaf.mk ?_; omega) | (refine Leaf.mk ?_; unfold maxLen; omega)
  refine LoopVC.weak [(.slot 5, .nil 32 MsgT)] (fun i : Nat => [(10, .i .i64 i)]) (fun i => [(0, .arr 32 MsgT (flN p l i))]) (fun i => i ≤ l.length) (fun i => l.length - i) 0 (Ev.mk ?_)
  (conv => whnf)
  refine ⟨Leaf.mk rfl, Leaf.mk ?_, ?_⟩
  · omega
  intro i hi
  have hfl := flN_len p l i
  repeat' (first | ((with_reducible refine Ev.mk ?_); conv => whnf) | (with_reducible refine And.intro ?_ ?_) | (intro h))
  all_goals (try simp only [decide_eq_true_eq, decide_eq_false_iff_not, beq_iff_eq, bne_iff_ne, beq_eq_false_iff_ne, bne_eq_false_iff_eq, Int.toNat_natCast, ge_iff_le, gt_iff_lt, Bool.not_eq_true', Bool.not_eq_false', Int.not_lt, Int.not_le, ne_eq] at *)
  all_goals (try dsimp only [Ty.den, Ty.dflt, MsgT] at *)
  all_goals (try simp only [eq4, ne4, eq3, ne3, eq2, ne2, Prod.eta, List.length_cons, List.length_nil, List.length_append, Nat.zero_add] at *)
  all_goals (try simp (disch := omega) only [wrap64] at *)
  all_goals try first | exact leafDraw (by kernel_rfl) | exact Leaf.mk trivial | (refine Leaf.mk ?_; omega) | (refine Leaf.mk ?_; unfold maxLen; omega)
  all_goals first
    | (refine Leaf.mk ?_; omega)
    | (refine Leaf.mk ?_; unfold maxLen; omega)
    | (refine Leaf.mk ⟨i + 1, ?_, by omega, by omega⟩
       rw [flN_in (by omega) ‹p _ = true›]; rfl)
    | (refine Leaf.mk ⟨i + 1, ?_, by omega, by omega⟩
       rw [flN_out (by omega) ‹p _ = false›]; rfl)
    | (refine Leaf.mk (ret1 (show flN p l i = l.filter p from ?_))
       rw [flN, take_all (by omega)])
def lFor1 : LSpec := ⟨MsgT, .bool, [.bx .str], fun m c => about c.1 m⟩
theorem fFor1 : FnOk Try.prog 72 := ⟨_, Try.func72, by decide, rfl⟩
theorem pFor1 : PSound Try.prog 72 lFor1.p := by
  refine psound (T := tab) (S := (spOf [(57, sAbout.spec (lsOf []))])) (keep := k72) (by kernel_rfl) tabOk (spCons (pOk pAbout fAbout (by decide) lsNil) spNil) (by kernel_rfl) Try.func72 (by kernel_rfl) (by decide) fun xs hg hp => ?_
  obtain ⟨⟨kind, key, txn, ts, gone, val⟩, k, ⟨⟩⟩ := xs
  show vfun tab _ k72 Try.f72 [.agg [.i .u8 kind, .s key, .i .i64 txn, .i .i64 ts, .b gone, .s val], .rp [.s k]] [] _
  refine Ev.out ?_
  repeat' (first | ((with_reducible refine Ev.mk ?_); conv => whnf) | (with_reducible refine And.intro ?_ ?_) | (intro h))
  · exact Leaf.mk trivial
  · exact Leaf.mk rfl
def sFor : PSpec := ⟨[.d MsT, .d .str], [⟨false, [.d MsT]⟩], fun x => List.length x.1 ≤ 100000, fun x => ((List.filter (α := Msg) (about x.2.1) x.1, ()), ())⟩
def sForR : PSpec := sFor
theorem fFor1i : FnOk Try.prog 72 := ⟨_, Try.func72, by decide, rfl⟩
noncomputable def iFor1i : Eng.Spec := inl tab (spOf [(57, sAbout.spec (lsOf []))]) k72 Try.f72
theorem pFor1i : SpecOk Try.prog 72 iFor1i := inl_ok tabOk (spCons (pOk pAbout fAbout (by decide) lsNil) spNil) (by kernel_rfl) Try.func72 (by kernel_rfl)
theorem fPickedF : FnOk Try.prog 71 := ⟨_, Try.func71, by decide, rfl⟩
noncomputable def iPickedF : Eng.Spec := inl tab (spOf [(72, iFor1i)]) k71 Try.f71
theorem pPickedF : SpecOk Try.prog 71 iPickedF := inl_ok tabOk (spCons (.inl ⟨pFor1i, fFor1i⟩) spNil) (by kernel_rfl) Try.func71 (by kernel_rfl)
theorem fFor : FnOk Try.prog 26 := ⟨_, Try.func26, by decide, rfl⟩
theorem pFor : PSound Try.prog 26 sFor := by
  refine psound (T := tab) (S := (spOf [(71, iPickedF), (72, iFor1i)])) (keep := k26) (by kernel_rfl) tabOk (spCons (.inl ⟨pPickedF, fPickedF⟩) (spCons (.inl ⟨pFor1i, fFor1i⟩) spNil)) (by kernel_rfl) Try.func26 (by kernel_rfl) (by decide) fun xs hg hp => ?_
  obtain ⟨l, k, ⟨⟩⟩ := xs
  change List Msg at l
  change List UInt8 at k
  change l.length ≤ 100000 at hp
  clear hg
  show vfun tab _ k26 Try.f26 [.sl MsgT l, .s k] [] _
  refine Ev.out ?_
  repeat' (first | ((with_reducible refine Ev.mk ?_); conv => whnf) | (with_reducible refine And.intro ?_ ?_) | (intro h))
  all_goals (try simp only [decide_eq_true_eq, decide_eq_false_iff_not, beq_iff_eq, bne_iff_ne, beq_eq_false_iff_ne, bne_eq_false_iff_eq, Int.toNat_natCast, ge_iff_le, gt_iff_lt, Bool.not_eq_true', Bool.not_eq_false', Int.not_lt, Int.not_le, ne_eq] at *)
  all_goals (try dsimp only [Ty.den, Ty.dflt, MsgT] at *)
  all_goals (try simp only [eq4, ne4, eq3, ne3, eq2, ne2, Prod.eta, List.length_cons, List.length_nil, List.length_append, Nat.zero_add] at *)
  all_goals (try simp (disch := omega) only [wrap64] at *)
  all_goals try first | exact leafDraw (by kernel_rfl) | exact Leaf.mk trivial | (refine Leaf.mk ?_; omega) | (refine Leaf.mk ?_; unfold maxLen; omega)
  refine LoopVC.weak [(.slot 5, .nil 32 MsgT)] (fun i : Nat => [(10, .i .i64 i)]) (fun i => [(17, .arr 32 MsgT (flN (about k) l i))]) (fun i => i ≤ l.length) (fun i => l.length - i) 0 (Ev.mk ?_)
  (conv => whnf)
  refine ⟨Leaf.mk rfl, Leaf.mk ?_, ?_⟩
  · omega
  intro i hi
  have hfl := flN_len (about k) l i
  repeat' (first | ((with_reducible refine Ev.mk ?_); conv => whnf) | (with_reducible refine And.intro ?_ ?_) | (intro h))
  all_goals (try simp only [decide_eq_true_eq, decide_eq_false_iff_not, beq_iff_eq, bne_iff_ne, beq_eq_false_iff_ne, bne_eq_false_iff_eq, Int.toNat_natCast, ge_iff_le, gt_iff_lt, Bool.not_eq_true', Bool.not_eq_false', Int.not_lt, Int.not_le, ne_eq] at *)
  all_goals (try dsimp only [Ty.den, Ty.dflt, MsgT, sAboutR, sAbout] at *)
  all_goals (try simp only [eq4, ne4, eq3, ne3, eq2, ne2, Prod.eta, List.length_cons, List.length_nil, List.length_append, Nat.zero_add] at *)
  all_goals (try simp (disch := omega) only [wrap64] at *)
  all_goals try first | exact leafDraw (by kernel_rfl) | exact Leaf.mk trivial | (refine Leaf.mk ?_; omega) | (refine Leaf.mk ?_; unfold maxLen; omega)
  all_goals first
    | (refine Leaf.mk ?_; omega)
    | (refine Leaf.mk ?_; unfold maxLen; omega)
    | (refine Leaf.mk ⟨i + 1, ?_, by omega, by omega⟩
       rw [flN_in (by omega) ‹about _ _ = true›]; rfl)
    | (refine Leaf.mk ⟨i + 1, ?_, by omega, by omega⟩
       rw [flN_out (by omega) ‹about _ _ = false›]; rfl)
    | (refine Leaf.mk (ret1 (show flN (about k) l i = l.filter (about k) from ?_))
       rw [flN, take_all (by omega)])
theorem fForR : FnOk Try.prog 27 := ⟨_, Try.func27, by decide, rfl⟩
theorem pForR : PSound Try.prog 27 sForR := by
  refine psound (T := tab) (S := (spOf [(63, sAboutR.spec (lsOf []))])) (keep := k27) (by kernel_rfl) tabOk (spCons (pOk pAboutR fAboutR (by decide) lsNil) spNil) (by kernel_rfl) Try.func27 (by kernel_rfl) (by decide) fun xs hg hp => ?_
  obtain ⟨l, k, ⟨⟩⟩ := xs
  change List Msg at l
  change List UInt8 at k
  change l.length ≤ 100000 at hp
  clear hg
  show vfun tab _ k27 Try.f27 [.sl MsgT l, .s k] [] _
  refine Ev.out ?_
  repeat' (first | ((with_reducible refine Ev.mk ?_); conv => whnf) | (with_reducible refine And.intro ?_ ?_) | (intro h))
  all_goals (try simp only [decide_eq_true_eq, decide_eq_false_iff_not, beq_iff_eq, bne_iff_ne, beq_eq_false_iff_ne, bne_eq_false_iff_eq, Int.toNat_natCast, ge_iff_le, gt_iff_lt, Bool.not_eq_true', Bool.not_eq_false', Int.not_lt, Int.not_le, ne_eq] at *)
  all_goals (try dsimp only [Ty.den, Ty.dflt, MsgT] at *)
  all_goals (try simp only [eq4, ne4, eq3, ne3, eq2, ne2, Prod.eta, List.length_cons, List.length_nil, List.length_append, Nat.zero_add] at *)
  all_goals (try simp (disch := omega) only [wrap64] at *)
  all_goals try first | exact leafDraw (by kernel_rfl) | exact Leaf.mk trivial | (refine Leaf.mk ?_; omega) | (refine Leaf.mk ?_; unfold maxLen; omega)
  refine LoopVC.weak [(.slot 5, .nil 32 MsgT)] (fun i : Nat => [(6, .i .i64 i)]) (fun i => [(0, .arr 32 MsgT (flN (about k) l i))]) (fun i => i ≤ l.length) (fun i => l.length - i) 0 (Ev.mk ?_)
  (conv => whnf)
  refine ⟨Leaf.mk rfl, Leaf.mk ?_, ?_⟩
  · omega
  intro i hii
  have hfl := flN_len (about k) l i
  repeat' (first | ((with_reducible refine Ev.mk ?_); conv => whnf) | (with_reducible refine And.intro ?_ ?_) | (intro h))
  all_goals (try simp only [decide_eq_true_eq, decide_eq_false_iff_not, beq_iff_eq, bne_iff_ne, beq_eq_false_iff_ne, bne_eq_false_iff_eq, Int.toNat_natCast, ge_iff_le, gt_iff_lt, Bool.not_eq_true', Bool.not_eq_false', Int.not_lt, Int.not_le, ne_eq] at *)
  all_goals (try dsimp only [Ty.den, Ty.dflt, MsgT, sAboutR, sAbout] at *)
  all_goals (try simp only [eq4, ne4, eq3, ne3, eq2, ne2, Prod.eta, List.length_cons, List.length_nil, List.length_append, Nat.zero_add] at *)
  all_goals (try simp (disch := omega) only [wrap64] at *)
  all_goals try first | exact leafDraw (by kernel_rfl) | exact Leaf.mk trivial | (refine Leaf.mk ?_; omega) | (refine Leaf.mk ?_; unfold maxLen; omega)
  all_goals first
    | (refine Leaf.mk ?_; omega)
    | (refine Leaf.mk ?_; unfold maxLen; omega)
    | (refine Leaf.mk ⟨i + 1, ?_, by omega, by omega⟩
       rw [flN_in (by omega) ‹about _ _ = true›]; rfl)
    | (refine Leaf.mk ⟨i + 1, ?_, by omega, by omega⟩
       rw [flN_out (by omega) ‹about _ _ = false›]; rfl)
    | (refine Leaf.mk (ret1 (show flN (about k) l i = l.filter (about k) from ?_))
       rw [flN, take_all (by omega)])
def withinK (lo hi k : List UInt8) : Bool := !sless k lo && ((hi == []) || sless k hi)
def sWithin : PSpec := ⟨[.d .str, .d .str, .d .str], [⟨false, [.d .bool]⟩], fun _ => True, fun x => ((withinK x.2.1 x.2.2.1 x.1, ()), ())⟩
theorem fWithin : FnOk Try.prog 76 := ⟨_, Try.func76, by decide, rfl⟩
theorem pWithin : PSound Try.prog 76 sWithin := by
  refine psound (T := tab) (S := (spOf [])) (keep := k76) (by kernel_rfl) tabOk spNil (by kernel_rfl) Try.func76 (by kernel_rfl) (by decide) fun xs hg hp => ?_
  obtain ⟨k, lo, hi, ⟨⟩⟩ := xs
  change List UInt8 at k lo hi
  clear hg hp
  show vfun tab _ k76 Try.f76 [.s k, .s lo, .s hi] [] _
  refine Ev.out ?_
  repeat' (first | ((with_reducible refine Ev.mk ?_); conv => whnf) | (with_reducible refine And.intro ?_ ?_) | (intro h))
  all_goals (try simp only [decide_eq_true_eq, decide_eq_false_iff_not, beq_iff_eq, bne_iff_ne, beq_eq_false_iff_ne, bne_eq_false_iff_eq, Int.toNat_natCast, ge_iff_le, gt_iff_lt, Bool.not_eq_true', Bool.not_eq_false', Int.not_lt, Int.not_le, ne_eq] at *)
  all_goals (try dsimp only [Ty.den, Ty.dflt, MsgT] at *)
  all_goals (try simp only [eq4, ne4, eq3, ne3, eq2, ne2, Prod.eta, List.length_cons, List.length_nil, List.length_append, Nat.zero_add] at *)
  all_goals (try simp (disch := omega) only [wrap64] at *)
  all_goals try first | exact leafDraw (by kernel_rfl) | exact Leaf.mk trivial | (refine Leaf.mk ?_; omega) | (refine Leaf.mk ?_; unfold maxLen; omega)
  all_goals
    refine Leaf.mk (ret1 (show _ = withinK lo hi k from ?_))
    simp [withinK, *]
def wrP (lo hi : List UInt8) (m : Msg) : Bool := (m.1 == 0) && withinK lo hi m.2.1
def lKeys1 : LSpec := ⟨MsgT, .bool, [.bx .str, .bx .str], fun m c => wrP c.1 c.2.1 m⟩
theorem fKeys1 : FnOk Try.prog 73 := ⟨_, Try.func73, by decide, rfl⟩
theorem pKeys1 : PSound Try.prog 73 lKeys1.p := by
  refine psound (T := tab) (S := (spOf [])) (keep := k73) (by kernel_rfl) tabOk spNil (by kernel_rfl) Try.func73 (by kernel_rfl) (by decide) fun xs hg hp => ?_
  obtain ⟨⟨kind, key, txn, ts, gone, val⟩, lo, hi, ⟨⟩⟩ := xs
  show vfun tab _ k73 Try.f73 [.agg [.i .u8 kind, .s key, .i .i64 txn, .i .i64 ts, .b gone, .s val], .rp [.s lo], .rp [.s hi]] [] _
  refine Ev.out ?_
  repeat' (first | ((with_reducible refine Ev.mk ?_); conv => whnf) | (with_reducible refine And.intro ?_ ?_) | (intro h))
  all_goals
    refine Leaf.mk (ret1 (show _ = wrP lo hi (kind, key, txn, ts, gone, val) from ?_))
    simp_all [wrP, withinK]
end Go.Proofs.Ytoedpnniaikfbaa
