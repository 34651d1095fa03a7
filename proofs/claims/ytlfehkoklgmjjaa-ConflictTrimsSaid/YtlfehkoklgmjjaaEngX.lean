import Derived.Test.YtlfehkoklgmjjaaEngZ
import Derived.Lib.BytesEntry
import Derived.Laws.Externs
import Derived.Lib.Overlaps
/- Two functions of the model's own: internal/bytealg.IndexByte, Compare. -/
set_option linter.unusedVariables false
set_option linter.unusedSimpArgs false
namespace Go.Eng

theorem run_bytesOfSlice {P : Program} {w : World} {F : Nat → Prop} {xs : List Int} {x : Value} {A : Option Addr} {cap : Nat} {cells : List Value} (q : View w F (.int .u8) xs x A cap cells) :
    (Extern.Bytes.bytesOf x).run P w = .ok ⟨⟨strOfBytes xs⟩⟩ w := by
  rw [q.val]
  cases A with
  | none =>
    have h0 := q.nil rfl
    have h1 := q.le
    have : xs = [] := List.eq_nil_of_length_eq_zero (by omega)
    subst this
    rfl
  | some ad =>
    have hrow := bytes_rows xs cells q.rows
    have hl := Lib.run_loadBytesX (P := P) w xs ad .empty (fun j y hj => q.cell ad rfl j (.int .u8 y) (by rw [hrow, List.getElem?_map, hj]; rfl))
    have he : (⟨ByteArray.empty.data ++ (Lib.bytesOf xs).toArray⟩ : ByteArray) = ⟨⟨strOfBytes xs⟩⟩ := by
      apply ByteArray.ext
      show (#[] : Array UInt8) ++ (Lib.bytesOf xs).toArray = (strOfBytes xs).toArray
      simp [Lib.bytesOf, strOfBytes]
    rw [he] at hl
    exact hl
def xIndexByte : Spec := ⟨fun args h _ => match args with
  | [v, .i .u8 c] => match viewL h true (.int .u8) v with
    | some xs => some ([], .i .i64 (Lib.indexByte (strOfBytes xs) c.toNat.toUInt8), [])
    | none => none
  | _ => none, fun _ _ _ => none, noK⟩
def xCompare : Spec := ⟨fun args h _ => match args with
  | [v, u] => match viewL h true (.int .u8) v, viewL h true (.int .u8) u with
    | some xs, some ys => some ([], .i .i64 (Lib.compareBytes (strOfBytes xs) (strOfBytes ys)), [])
    | _, _ => none
  | _ => none, fun _ _ _ => none, noK⟩
theorem indexByte_bd (l : List UInt8) (c : UInt8) : -1 ≤ Lib.indexByte l c ∧ Lib.indexByte l c < (l.length : Int) := by
  induction l with
  | nil => simp [Lib.indexByte]
  | cons b l ih =>
    simp only [Lib.indexByte, List.length_cons]
    split
    · omega
    · split <;> omega
theorem compareBytes_bd : ∀ (a b : List UInt8), -1 ≤ Lib.compareBytes a b ∧ Lib.compareBytes a b ≤ 1
  | [], [] => by simp [Lib.compareBytes]
  | [], _ :: _ => by simp [Lib.compareBytes]
  | _ :: _, [] => by simp [Lib.compareBytes]
  | a :: as, b :: bs => by
    simp only [Lib.compareBytes]
    have := compareBytes_bd as bs
    repeat' split
    all_goals omega
theorem xIndexByte_ok {P : Program} {f : FuncId} {fn : Func} (hf : P.funcs[f]? = some fn) (hname : (fn.name == "runtime.NumGoroutine") = false) (hb : fn.body.isNone = true) (hn : Extern.findNext fn = none)
    (he : Extern.find fn = some Extern.BytealgIndexByte.indexByte) : XOk P f xIndexByte := by
  refine ⟨fun C w g h fresh args vals c v news hP R hv hs hc => ?_, fun _ _ _ => rfl, rfl⟩
  simp only [xIndexByte] at hs
  split at hs
  · rename_i a cc
    split at hs
    · rename_i xs hxs
      simp only [Option.some.injEq, Prod.mk.injEq] at hs
      obtain ⟨rfl, rfl, rfl⟩ := hs
      simp only [RVs] at hv
      obtain ⟨x, _, rfl, h1, y, _, rfl, h2, rfl⟩ := hv
      simp only [RV] at h2
      obtain ⟨rfl, _⟩ := h2
      obtain ⟨A, cap, cells, q, _⟩ := viewL_sound R hxs h1
      refine ⟨.int .i64 (Lib.indexByte (strOfBytes xs) cc.toNat.toUInt8), ?_, QRes.pure ?_⟩
      · rw [run_callFunc_extern hf hname hb hn he]
        have hs := Lib.run_indexByteString (P := P) ⟨⟨strOfBytes xs⟩⟩ cc w
        have hb := run_bytesOfSlice (P := P) q
        have : (Extern.BytealgIndexByte.indexByte [x, Value.int .u8 cc].toArray).run P w = .ok (.int .i64 (Lib.indexByte (strOfBytes xs) cc.toNat.toUInt8)) w := by
          change Sem.run P (do
            let b ← Extern.Bytes.bytesOf x
            let c ← Extern.Bytes.asByte (.int .u8 cc)
            match (List.range b.size).find? fun i => b[i]! == c with
            | some i => pure (goInt i)
            | none => pure (goInt (-1))) w = _
          change Sem.run P (do
            let b ← Extern.Bytes.bytesOf (.string ⟨⟨strOfBytes xs⟩⟩)
            let c ← Extern.Bytes.asByte (.int .u8 cc)
            match (List.range b.size).find? fun i => b[i]! == c with
            | some i => pure (goInt i)
            | none => pure (goInt (-1))) w = _ at hs
          simp only [Sem.run_bind, hb, Result.andThen] at hs ⊢
          simp only [Extern.Bytes.bytesOf, Sem.run_pure] at hs
          exact hs
        rw [this]
        rfl
      · have := indexByte_bd (strOfBytes xs) cc.toNat.toUInt8
        have h3 := q.le
        have h4 := q.max
        have h5 : (strOfBytes xs).length = xs.length := by simp [strOfBytes]
        generalize Lib.indexByte (strOfBytes xs) cc.toNat.toUInt8 = k at this ⊢
        simp only [RV, true_and, IntKind.min, IntKind.max, IntKind.signed, IntKind.bits]
        unfold maxLen at h4
        constructor <;> simp <;> omega
    · simp at hs
  · simp at hs
theorem xCompare_ok {P : Program} {f : FuncId} {fn : Func} (hf : P.funcs[f]? = some fn) (hname : (fn.name == "runtime.NumGoroutine") = false) (hb : fn.body.isNone = true) (hn : Extern.findNext fn = none)
    (he : Extern.find fn = some Extern.BytealgCompare.compare) : XOk P f xCompare := by
  refine ⟨fun C w g h fresh args vals c v news hP R hv hs hc => ?_, fun _ _ _ => rfl, rfl⟩
  simp only [xCompare] at hs
  split at hs
  · rename_i a b
    split at hs
    · rename_i xs ys hxs hys
      simp only [Option.some.injEq, Prod.mk.injEq] at hs
      obtain ⟨rfl, rfl, rfl⟩ := hs
      simp only [RVs] at hv
      obtain ⟨x, _, rfl, h1, y, _, rfl, h2, rfl⟩ := hv
      obtain ⟨A, cap, cells, q, _⟩ := viewL_sound R hxs h1
      obtain ⟨A', cap', cells', q', _⟩ := viewL_sound R hys h2
      refine ⟨.int .i64 (Lib.compareBytes (strOfBytes xs) (strOfBytes ys)), ?_, QRes.pure ?_⟩
      · rw [run_callFunc_extern hf hname hb hn he]
        have : (Extern.BytealgCompare.compare [x, y].toArray).run P w = .ok (.int .i64 (Lib.compareBytes (strOfBytes xs) (strOfBytes ys))) w := by
          change Sem.run P (do pure (goInt (Extern.BytealgCompare.cmp (← Extern.Bytes.bytesOf x) (← Extern.Bytes.bytesOf y)))) w = _
          simp only [Sem.run_bind, run_bytesOfSlice (P := P) q, run_bytesOfSlice (P := P) q', Result.andThen, Sem.run_pure]
          rw [Lib.cmp_eq]
          rfl
        rw [this]
        rfl
      · have := compareBytes_bd (strOfBytes xs) (strOfBytes ys)
        generalize Lib.compareBytes (strOfBytes xs) (strOfBytes ys) = k at this ⊢
        simp only [RV, true_and, IntKind.min, IntKind.max, IntKind.signed, IntKind.bits]
        constructor <;> simp <;> omega
    · simp at hs
  · simp at hs
/-- slices.overlaps, of a slice that is one's own and a part of another one. -/
def xOverlaps : Spec := ⟨fun args h _ => match args with
  | [.own i, .vw id _ _ n _] => match lookN h i, lookN h id, Nat.beq i id with
    | some (.arr _ _ xs), some (.raw _ _ _), false => some ([0 < xs.length, 0 < n], .bl false, [])
    | _, _, _ => none
  | _ => none, fun _ _ _ => none, noK⟩
theorem xOverlaps_ok {P : Program} {T : Tab} (hT : TabOk P T) {f : FuncId} {fn : Func} (hf : P.funcs[f]? = some fn) (hname : (fn.name == "runtime.NumGoroutine") = false) (hb : fn.body.isNone = true) (hn : Extern.findNext fn = none)
    (he : Extern.find fn = some (Extern.SlicesOverlaps.overlaps fn.params fn.resultTypes)) {t : TypeId} {tr : Array TypeId} (hp : fn.params = #[t, t]) (hr : fn.resultTypes = tr) {te : TypeId} {e : Ty} {b : Nat} {z : List ZC} (hel : elemT T t = some (te, e, b, z)) : XOk P f xOverlaps := by
  refine ⟨fun C w g h fresh args vals c v news hP R hv hs hc => ?_, fun _ _ _ => rfl, rfl⟩
  subst hP
  simp only [xOverlaps] at hs
  split at hs
  · rename_i i id e2 lo n fl
    split at hs
    · rename_i te1 e1 xs1 te3 e3 xs3 ho1 ho2 hne
      simp only [Option.some.injEq, Prod.mk.injEq] at hs
      obtain ⟨rfl, rfl, rfl⟩ := hs
      obtain ⟨inf, zv, g1, g2, g3, g4, g5, g6, g7, g8, g9⟩ := elem_of hT hel
      simp only [RVs] at hv
      obtain ⟨x, _, rfl, h1, y, _, rfl, h2, rfl⟩ := hv
      refine ⟨.bool false, ?_, QRes.pure (by simp [RV])⟩
      rw [run_callFunc_extern hf hname hb hn he]
      have hsz : ∀ w, (Go.sizeOf te).run C.P w = .ok e.cells w := fun w => by simp [sizeOf, typeInfo, g2, g3]
      have : (Extern.SlicesOverlaps.overlaps fn.params fn.resultTypes [x, y].toArray).run C.P w = .ok (.bool false) w := by
        rw [hp, hr]
        simp only [RV] at h1 h2
        obtain ⟨hU1, rfl, A1, n1, cc1, hx⟩ := h1
        obtain ⟨hU2, A, m0, c0, A', c', q1, q2, q3, rfl, q4, q5, q6, q7⟩ := h2
        rw [hx]
        have hc1 : 0 < xs1.length := hc _ (by simp)
        have hc2 : 0 < n := hc _ (by simp)
        have z4 : A' ≠ none := fun h => by
          subst h
          rcases q7 with h | h
          · omega
          · cases A with
            | none => have := q2 rfl; omega
            | some ad => simp at h
        have z3 : A1 ≠ none := fun h => by
          subst h
          obtain ⟨A3, cap3, cells3, q⟩ := view_of_arr (R.obj i _ ho1).2
          have hv := q.val
          rw [hx] at hv
          simp at hv
          have := q.nil hv.1.symm
          have := q.le
          omega
        obtain ⟨a, rfl⟩ := Option.ne_none_iff_exists'.1 z3
        obtain ⟨b', rfl⟩ := Option.ne_none_iff_exists'.1 z4
        obtain ⟨cells, k1, k2, k3, k4⟩ := (R.obj i _ ho1).2
        rcases k1.2 with ⟨hnil, _⟩ | ⟨blk1, cap1, cur1, hval, _, hheap1, _⟩
        · rw [hx] at hnil; simp at hnil
        · rw [hx] at hval
          simp at hval
          obtain ⟨rfl, _, rfl⟩ := hval
          obtain ⟨blk2, cur2, rfl, rfl, p1, p2, p3, p4, p5⟩ := raw_cells (R.obj id _ ho2).2 q1 (lo := lo) (n := n) (by omega) (by omega)
          have hb' : b'.block = blk2 := by
            rcases q7 with h | h
            · omega
            · simp at h; rw [h, add_block]
          have hblk : blk1 ≠ blk2 := fun hcc => by
            subst hcc
            have := R.sep i _ id _ blk1 ho1 ho2 rfl rfl (by rw [hx]; rfl) (by rw [q1]; rfl)
            subst this
            simp at hne
          have hc2 : cur2.size ≠ 0 := by
            rw [p3]
            have h1 : 0 < xs3.length := by omega
            have h2 := (R.obj id _ ho2).2.1
            exact Nat.mul_ne_zero (by omega) (by omega)
          exact Lib.run_overlaps_apart w t tr[0]! te g1 e.cells hsz ⟨blk1, 0, none⟩ b' n1 cc1 n c' (by rw [hb']; exact hblk) te1 te3 cur1.size cur2.size (by simp [World.shape?, hheap1]) (by rw [hb']; simp [World.shape?, p1]) hc2 (by simp [World.frozen?, hheap1]) (by simp [World.frozen?, hheap1])
      rw [this]
      rfl
    · simp at hs
  · simp at hs
end Go.Eng
