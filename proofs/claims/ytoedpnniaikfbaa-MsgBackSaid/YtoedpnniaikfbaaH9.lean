import Derived.Test.YtoedpnniaikfbaaH8



set_option linter.unusedVariables false
set_option linter.unusedSimpArgs false
set_option maxRecDepth 8000
set_option maxHeartbeats 4000000
namespace Go.Proofs.Ytoedpnniaikfbaa
open Go.Eng
/-- What is read. -/
def rdKey (k : Int) (r : List Int) : List UInt8 × List Int × Int := if k = 0 then rdText r 0 16 else ([], r, 0)
def rdTxn (k : Int) (p : List Int × Int) : Int × List Int × Int := if k = 0 ∨ k = 1 ∨ k = 2 then rdSmall p.1 p.2 else (0, p)
def rdTs (k : Int) (p : List Int × Int) : Int × List Int × Int := if k = 1 ∨ k = 3 then rdSmall p.1 p.2 else (0, p)
def readM (k : Int) (r : List Int) : Msg :=
  let t := rdTs k (rdTxn k (rdKey k r).2).2
  (k, (rdKey k r).1, (rdTxn k (rdKey k r).2).1, t.1, if k = 0 ∧ 0 < t.2.1.length then (t.2.1.getD 0 0 == 1, (rdText (t.2.1.drop 1) 0 24).1) else (false, []))
def preB : List Int → List Int → Bool
  | [], _ => true
  | _ :: _, [] => false
  | a :: r, b :: s => decide (a = b) && preB r s
theorem preB_iff : ∀ (a b : List Int), preB a b = true ↔ a <+: b
  | [], b => by simp [preB]
  | a :: r, [] => by simp [preB]
  | a :: r, b :: s => by
    rw [preB, Bool.and_eq_true, decide_eq_true_eq, preB_iff r s, List.cons_prefix_cons]
def getM (b : List Int) : Msg × Int × Int := match b with
  | [] => (msg0, 0, 4)
  | k :: r => if mcheck (readM k r) = 0 ∧ preB (putM (readM k r)) (k :: r) = true then (readM k r, (((putM (readM k r)).length : Nat) : Int), 0) else (msg0, 0, 4)
def tailM (m : Msg) (s : List Int) : List Int := (if m.1 = 0 then gvB m.2.2.2.2.1 m.2.2.2.2.2 else []) ++ s
structure RdOk (m : Msg) (r s : List Int) : Prop where
  key : rdKey m.1 r = (m.2.1, (rdKey m.1 r).2.1, 0)
  txn : rdTxn m.1 (rdKey m.1 r).2 = (m.2.2.1, (rdTxn m.1 (rdKey m.1 r).2).2.1, 0)
  ts : rdTs m.1 (rdTxn m.1 (rdKey m.1 r).2).2 = (m.2.2.2.1, tailM m s, 0)
  all : readM m.1 r = m
theorem readM_put {m : Msg} (h0 : 0 ≤ m.1) (h : mcheck m = 0) (s : List Int) : ∃ r, putM m ++ s = m.1 :: r ∧ RdOk m r s := by
  have ok := mcheck_ok h
  obtain ⟨kind, key, txn, ts, gone, val⟩ := m
  have hk1 := ok.key
  have hv1 := ok.val
  have hk2 := ok.kind
  have ht1 := ok.txn
  have ht2 := ok.ts
  have hf := ok.form
  dsimp only [mForm] at *
  have hkey := fun r => rdText_put (k := key) (m := 16) (by omega) r
  have htxn := fun r => rdSmall_put (n := txn) ht1.1 ht1.2 r
  have hts := fun r => rdSmall_put (n := ts) ht2.1 ht2.2 r
  have hval := fun r => rdText_put (k := val) (m := 24) (by omega) r
  refine ⟨_, rfl, ?_⟩
  rcases (by omega : kind = 0 ∨ kind = 1 ∨ kind = 2 ∨ kind = 3) with rfl | rfl | rfl | rfl
  · have hts0 : ts = 0 := hf.2.2.1 (.inl rfl)
    subst hts0
    constructor
    all_goals simp [rdKey, rdTxn, rdTs, readM, tailM, hkey, htxn]
    rw [gvB]
    cases gone <;> simp [hval]
  · obtain ⟨rfl, h2, h3⟩ : gone = false ∧ key = [] ∧ val = [] := by
      rcases hf.1 with h | h
      · omega
      · exact ⟨h.1, List.eq_nil_of_length_eq_zero h.2.1, List.eq_nil_of_length_eq_zero h.2.2⟩
    subst h2 h3
    constructor <;> simp [rdKey, rdTxn, rdTs, readM, tailM, htxn, hts]
  · obtain ⟨rfl, h2, h3⟩ : gone = false ∧ key = [] ∧ val = [] := by
      rcases hf.1 with h | h
      · omega
      · exact ⟨h.1, List.eq_nil_of_length_eq_zero h.2.1, List.eq_nil_of_length_eq_zero h.2.2⟩
    have hts0 : ts = 0 := hf.2.2.1 (.inr rfl)
    subst h2 h3 hts0
    constructor <;> simp [rdKey, rdTxn, rdTs, readM, tailM, htxn, hts]
  · obtain ⟨rfl, h2, h3⟩ : gone = false ∧ key = [] ∧ val = [] := by
      rcases hf.1 with h | h
      · omega
      · exact ⟨h.1, List.eq_nil_of_length_eq_zero h.2.1, List.eq_nil_of_length_eq_zero h.2.2⟩
    have htx0 : txn = 0 := hf.2.1 rfl
    subst h2 h3 htx0
    constructor <;> simp [rdKey, rdTxn, rdTs, readM, tailM, htxn, hts]
theorem getM_put {m : Msg} {b : List Int} (h0 : 0 ≤ m.1) (h : mcheck m = 0) (hb : putM m <+: b) : getM b = (m, (((putM m).length : Nat) : Int), 0) := by
  obtain ⟨s, rfl⟩ := hb
  obtain ⟨r, hr, q⟩ := readM_put h0 h s
  rw [hr, getM]
  rw [q.all, if_pos ⟨h, (preB_iff _ _).2 ⟨s, hr⟩⟩]
theorem getM_not {b : List Int} (hB : isB b) (hn : ∀ m : Msg, 0 ≤ m.1 → mcheck m = 0 → ¬ putM m <+: b) : getM b = (msg0, 0, 4) := by
  cases b with
  | nil => rfl
  | cons k r =>
    rw [getM, if_neg]
    intro hc
    exact hn (readM k r) (show 0 ≤ k from (hB k List.mem_cons_self).1) hc.1 ((preB_iff _ _).1 hc.2)
/-- What any reader answers that reads right what was laid. -/
theorem getM_end {b : List Int} {m : Msg} (hB : isB b) (h0 : 0 ≤ m.1) (hu : ∀ x : Msg, 0 ≤ x.1 → mcheck x = 0 → putM x <+: b → m = x) :
    getM b = if mcheck m = 0 ∧ putM m <+: b then (m, (((putM m).length : Nat) : Int), 0) else (msg0, 0, 4) := by
  split
  · rename_i h; exact getM_put h0 h.1 h.2
  · rename_i h
    refine getM_not hB fun x hx0 hx hp => h ?_
    have := hu x hx0 hx hp
    subst this
    exact ⟨hx, hp⟩
theorem putR12_zero {m : Msg} (h : (putR12 m).2 = 0) : mcheck m = 0 ∧ (putR12 m).1 = putM m := by
  unfold putR12 at h ⊢
  split at h
  · rename_i hc; rw [if_pos hc]; exact ⟨hc, rfl⟩
  · rename_i hc; exact absurd h hc
theorem putR12_not {m : Msg} (h : ¬ (putR12 m).2 = 0) : ¬ mcheck m = 0 := fun hc => h (by unfold putR12; rw [if_pos hc])
def hasPre (b c : List Int) : Bool := decide (c.length ≤ b.length) && (strOfBytes (b.take c.length) == strOfBytes c)
theorem pre_str {b c : List Int} (hb : isB b) (hc : isB c) : strOfBytes c = strOfBytes (b.take c.length) ↔ c <+: b := by
  constructor
  · intro h
    rw [str_inj hc (isB_take hb _) h]; exact List.take_prefix _ _
  · intro h
    rw [← List.prefix_iff_eq_take.1 h]
theorem hasPre_iff {b c : List Int} (hb : isB b) (hc : isB c) : hasPre b c = true ↔ c <+: b := by
  rw [hasPre, str_eq (isB_take hb _) hc, Bool.and_eq_true, decide_eq_true_eq, decide_eq_true_eq]
  constructor
  · intro h; rw [← h.2]; exact List.take_prefix _ _
  · intro h; exact ⟨h.length_le, (List.prefix_iff_eq_take.1 h).symm⟩
structure GetFin (b : List Int) (m : Msg) : Prop where
  bad : ¬ (putR12 m).2 = 0 → ((msg0, 0, 4) : Msg × Int × Int) = getM b
  nol : (putR12 m).2 = 0 → (b.length : Int) < (putR12 m).1.length → ((msg0, 0, 4) : Msg × Int × Int) = getM b
  nos : (putR12 m).2 = 0 → ¬ strOfBytes (putR12 m).1 = strOfBytes (b.take (putR12 m).1.length) → ((msg0, 0, 4) : Msg × Int × Int) = getM b
  yess : (putR12 m).2 = 0 → strOfBytes (putR12 m).1 = strOfBytes (b.take (putR12 m).1.length) → (m, (((putR12 m).1.length : Nat) : Int), 0) = getM b
  nop : (putR12 m).2 = 0 → hasPre b (putR12 m).1 = false → ((msg0, 0, 4) : Msg × Int × Int) = getM b
  yesp : (putR12 m).2 = 0 → hasPre b (putR12 m).1 = true → (m, (((putR12 m).1.length : Nat) : Int), 0) = getM b
theorem fin_of {k : Int} {r : List Int} {m : Msg} (hB : isB (k :: r)) (hk : m.1 = k) (hu : ∀ (x : Msg) (s : List Int), x.1 = k → MsgOk x → RdOk x r s → m = readM k r) : GetFin (k :: r) m := by
  have h0 : 0 ≤ m.1 ∧ m.1 ≤ 255 := by rw [hk]; exact hB k List.mem_cons_self
  have e := getM_end hB h0.1 (fun x hx0 hx hp => by
    obtain ⟨s, hs⟩ := hp
    obtain ⟨r', hr, q⟩ := readM_put hx0 hx s
    rw [hs] at hr
    injection hr with h1 h2
    subst h2
    exact (hu x s h1.symm (mcheck_ok hx) q).trans (by rw [h1]; exact q.all))
  have hb : (putR12 m).2 = 0 → isB (putR12 m).1 := fun h => by rw [(putR12_zero h).2]; exact isB_M h0.1 h0.2
  have no : (putR12 m).2 = 0 → ¬ (putR12 m).1 <+: k :: r → ((msg0, 0, 4) : Msg × Int × Int) = getM (k :: r) := fun h hn => by
    rw [e, if_neg (fun hc => hn (by rw [(putR12_zero h).2]; exact hc.2))]
  have yes : (putR12 m).2 = 0 → (putR12 m).1 <+: k :: r → (m, (((putR12 m).1.length : Nat) : Int), 0) = getM (k :: r) := fun h hp => by
    rw [e, if_pos ⟨(putR12_zero h).1, by rw [← (putR12_zero h).2]; exact hp⟩, (putR12_zero h).2]
  refine ⟨fun h => ?_, fun h hl => no h fun hc => ?_, fun h hs => no h fun hc => hs ((pre_str hB (hb h)).2 hc), fun h hs => yes h ((pre_str hB (hb h)).1 hs),
    fun h hs => no h fun hc => ?_, fun h hs => yes h ((hasPre_iff hB (hb h)).1 hs)⟩
  · rw [e, if_neg (fun hc => putR12_not h hc.1)]
  · have := hc.length_le; omega
  · rw [(hasPre_iff hB (hb h)).2 hc] at hs; exact Bool.noConfusion hs
end Go.Proofs.Ytoedpnniaikfbaa
