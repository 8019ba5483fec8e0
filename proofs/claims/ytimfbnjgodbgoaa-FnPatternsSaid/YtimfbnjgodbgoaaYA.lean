/- CountAccepted, both functions. -/
import Derived.Test.YtimfbnjgodbgoaaVL
import Derived.Test.YtimfbnjgodbgoaaVP
import Derived.Test.YtimfbnjgodbgoaaKY
namespace Go.Proofs.Ytimfbnjgodbgoaa
open Go.ChangeShapes Go.WideShapes Go.RowKit
set_option linter.unusedVariables false
set_option linter.unusedSimpArgs false
set_option maxHeartbeats 1000000
set_option maxRecDepth 100000
theorem lastI_bd {l : List Ru} (hok : gOk l = true) : 0 ≤ lastI (gLn l) ∧ lastI (gLn l) ≤ 1000000000000000 := by
  by_cases hz : (gLn l).length = 0
  · rw [lastI_nil hz]; omega
  · rw [lastI_at hz]
    have := (gOk_some hok).2.2.2 _ (getD_mem (show (gLn l).length - 1 < (gLn l).length by omega))
    omega
theorem viV_bd {a : Au} {l : List Ru} (ha : auOk a = true) (hok : gOk l = true) (j : Int) {t : Nat} (ht : t < a.nx.length) : 0 ≤ (viV a l j).getD t 0 ∧ (viV a l j).getD t 0 ≤ 1000000000000000 := by
  rw [viV_law ha hok ht]
  have h1 := cwW_bd a.nx t ((wd l).take j.toNat) a.sa.toNat
  have h2 : ((wd l).take j.toNat).length ≤ (wd l).length := by rw [List.length_take]; omega
  have h3 := wd_len hok
  have h4 := lastI_bd hok
  omega
theorem tmS_bd {c xs : List Int} (hc : ∀ k, k < xs.length → 0 ≤ c.getD (xs.getD k 0).toNat 0 ∧ c.getD (xs.getD k 0).toNat 0 ≤ 1000000000000000) (hx : xs.length ≤ 24) : ∀ k, k ≤ xs.length → 0 ≤ tmS c xs k ∧ tmS c xs k ≤ k * 1000000000000000
  | 0, _ => by simp [tmS]
  | k + 1, h => by
    have h1 := tmS_bd hc hx k (by omega)
    have h2 := hc k (by omega)
    rw [tmS, IntWalk.wrap64_in _ (by omega)]
    omega
/-- how often the reference counts, the start told besides -/
def csS (c xs : List Int) (sa : Int) : Nat → Int
  | 0 => 0
  | k + 1 => if xs.getD k 0 = sa then csS c xs sa k + c.getD (xs.getD k 0).toNat 0 + 1 else csS c xs sa k + c.getD (xs.getD k 0).toNat 0
theorem csS_eq {c xs : List Int} {sa : Int} (hc : ∀ k, k < xs.length → 0 ≤ c.getD (xs.getD k 0).toNat 0 ∧ c.getD (xs.getD k 0).toNat 0 ≤ 1000000000000000) (hx : xs.length ≤ 24) (hi : ∀ i j, i < j → j < xs.length → xs.getD i 0 < xs.getD j 0) :
    ∀ k, k ≤ xs.length → (csS c xs sa k = tmS c xs k ∧ ∀ i, i < k → xs.getD i 0 ≠ sa) ∨ (csS c xs sa k = tmS c xs k + 1 ∧ ∃ i, i < k ∧ xs.getD i 0 = sa)
  | 0, _ => .inl ⟨rfl, fun i h => absurd h (by omega)⟩
  | k + 1, h => by
    have h2 := hc k (by omega)
    have h3 := tmS_bd hc hx k (by omega)
    have h4 : tmS c xs (k + 1) = tmS c xs k + c.getD (xs.getD k 0).toNat 0 := by rw [tmS, IntWalk.wrap64_in _ (by omega)]
    rcases csS_eq hc hx hi k (by omega) with ⟨e, hn⟩ | ⟨e, i, hik, he⟩
    · by_cases hs : xs.getD k 0 = sa
      · right
        refine ⟨?_, k, by omega, hs⟩
        rw [csS, if_pos hs, e, h4]
      · left
        refine ⟨?_, fun i hi' => ?_⟩
        · rw [csS, if_neg hs, e, h4]
        · by_cases hik : i = k
          · rw [hik]; exact hs
          · exact hn i (by omega)
    · have hs : xs.getD k 0 ≠ sa := by
        have := hi i k hik (by omega)
        omega
      right
      refine ⟨?_, i, by omega, he⟩
      rw [csS, if_neg hs, e, h4]
      omega
theorem fi_inc {a : Au} (ha : auOk a = true) : ∀ i j, i < j → j < a.fi.length → a.fi.getD i 0 < a.fi.getD j 0 := by
  obtain ⟨f1, f2, f3, f4, f5⟩ := auOk_facts ha
  unfold riOk at f3
  have f3 := of_decide_eq_true f3
  intro i j hij
  induction j with
  | zero => omega
  | succ j ih =>
    intro hj
    have h1 := (f3 (j + 1) hj).2 (by omega)
    simp only [Nat.add_sub_cancel] at h1
    by_cases he : i = j
    · rw [he]; exact h1
    · have := ih (by omega) (by omega); omega
theorem contains_at (xs : List Int) (x : Int) : (xs.contains x = true) ↔ ∃ i, i < xs.length ∧ xs.getD i 0 = x := by
  rw [List.contains_iff_mem, List.mem_iff_getElem]
  constructor
  · rintro ⟨i, h, e⟩
    exact ⟨i, h, by rw [List.getD, List.getElem?_eq_getElem h]; exact e⟩
  · rintro ⟨i, h, e⟩
    rw [List.getD, List.getElem?_eq_getElem h] at e
    exact ⟨i, h, e⟩
def caN (a : Au) (l : List Ru) : Int := tmS (viV a l (lastI (gLn l))) a.fi a.fi.length
def caX (a : Au) (l : List Ru) : Int := if a.fi.contains a.sa = true then caN a l + 1 else caN a l
def caV (a : Au) (l : List Ru) : Int := if (gOk l && auOk a) = true then caX a l else 0
theorem ca_bd {a : Au} {l : List Ru} (ha : auOk a = true) (hok : gOk l = true) : ∀ k, k ≤ a.fi.length → 0 ≤ tmS (viV a l (lastI (gLn l))) a.fi k ∧ tmS (viV a l (lastI (gLn l))) a.fi k ≤ 24000000000000000 := by
  intro k hk
  have h := tmS_bd (c := viV a l (lastI (gLn l))) (xs := a.fi) (fun k hk => viV_bd ha hok _ (by have := fi_bd ha k hk; omega)) (fi_len ha) k hk
  have := fi_len ha
  omega
theorem ca_ref {a : Au} {l : List Ru} (ha : auOk a = true) (hok : gOk l = true) : csS (viV a l (lastI (gLn l))) a.fi a.sa a.fi.length = caX a l := by
  have h := csS_eq (c := viV a l (lastI (gLn l))) (xs := a.fi) (sa := a.sa) (fun k hk => viV_bd ha hok _ (by have := fi_bd ha k hk; omega)) (fi_len ha) (fi_inc ha) a.fi.length (Nat.le_refl _)
  rcases h with ⟨e, hn⟩ | ⟨e, i, hi, he⟩
  · rw [e, caX, if_neg (by rw [contains_at]; rintro ⟨i, hi, he⟩; exact hn i hi he)]; rfl
  · rw [e, caX, if_pos (by rw [contains_at]; exact ⟨i, hi, he⟩)]; rfl
theorem cs_bd {a : Au} {l : List Ru} (ha : auOk a = true) (hok : gOk l = true) {k : Nat} (hk : k ≤ a.fi.length) : 0 ≤ csS (viV a l (lastI (gLn l))) a.fi a.sa k ∧ csS (viV a l (lastI (gLn l))) a.fi a.sa k ≤ 24000000000000001 := by
  have h := csS_eq (c := viV a l (lastI (gLn l))) (xs := a.fi) (sa := a.sa) (fun k hk => viV_bd ha hok _ (by have := fi_bd ha k hk; omega)) (fi_len ha) (fi_inc ha) k hk
  have h2 := ca_bd ha hok k hk
  rcases h with ⟨e, -⟩ | ⟨e, -⟩ <;> omega
end Go.Proofs.Ytimfbnjgodbgoaa

/- FirstVisit, both functions. -/
namespace Go.Proofs.Ytimfbnjgodbgoaa
open Go.ChangeShapes Go.WideShapes Go.RowKit
set_option linter.unusedVariables false
set_option linter.unusedSimpArgs false
set_option maxHeartbeats 1000000
set_option maxRecDepth 100000
theorem tm_one {c : List Int} {s : Nat} (h : 0 ≤ c.getD s 0 ∧ c.getD s 0 ≤ 1000000000000000) : tmS c [(s : Int)] 1 = c.getD s 0 := by
  have e : tmS c [(s : Int)] 1 = wrap64 (0 + c.getD s 0) := by
    show wrap64 (0 + c.getD ([(s : Int)].getD 0 0).toNat 0) = _
    simp
  rw [e, IntWalk.wrap64_in _ (by omega)]
  omega
/-- how often a state is met behind the first letters, as the program counts -/
def fvF (a : Au) (l : List Ru) (t : Nat) (j : Int) : Int := tmS (viV a l j) [(t : Int)] 1
theorem fvF_eq {a : Au} {l : List Ru} (ha : auOk a = true) (hok : gOk l = true) {t : Nat} (ht : t < a.nx.length) (j : Int) : fvF a l t j = cwW a.nx t a.sa.toNat ((wd l).take j.toNat) := by
  rw [fvF, tm_one (viV_bd ha hok j ht), viV_law ha hok ht]
theorem lv_of_ls {nx : Tb} {t s : Nat} {w : List UInt8} {f : Int → Int} {N c r : Int} (hN : (w.length : Int) = N) (hf : ∀ j, 0 ≤ j → j ≤ N → f j = cwW nx t s (w.take j.toNat)) (h : lsP f N c r) (hc : c ≤ f N) : lvP nx t s w c r := by
  rcases h with ⟨h1, -⟩ | ⟨-, h2, h3, h4, h5⟩
  · omega
  · refine ⟨h2, by omega, by rw [← hf r h2 h3]; exact h4, fun j hj => ?_⟩
    have := h5 j (by omega) hj
    rw [hf j (by omega) (by omega)] at this
    simpa using this
def fvR (a : Au) (l : List Ru) (t : Nat) : Int := if l.length = 0 then -1 else (tA (etT (fsE l (gSm a.nx l) t) a.nx.length l.length) (l.length - 1)).getD a.sa.toNat 0
theorem fvR_law {a : Au} {l : List Ru} (ha : auOk a = true) (hok : gOk l = true) {t : Nat} (ht : t < a.nx.length) : fsP a.nx t a.sa.toNat (wd l) (fvR a l t) := by
  obtain ⟨f1, f2, f3, f4, f5⟩ := auOk_facts ha
  have hn : nxP a.nx := by intro s hs; rw [f4]; exact f5 s hs
  unfold fvR
  by_cases h0 : l.length = 0
  · rw [if_pos h0]
    left
    refine ⟨rfl, ?_⟩
    have : wd l = [] := by
      have := wd_len hok
      rw [lastI_nil (by rw [gLn_len3 hok]; exact h0)] at this
      exact List.eq_nil_of_length_eq_zero (by omega)
    rw [this, cwW]
  · rw [if_neg h0]
    exact fs_law hn hok l.length (l.length - 1) a.sa.toNat (by omega) (Nat.le_refl _) (by omega)
/-- the program's answer is the reference's -/
theorem fv_ans {a : Au} {l : List Ru} (ha : auOk a = true) (hok : gOk l = true) {t : Nat} (ht : t < a.nx.length) {r : Int} (h : lsP (fvF a l t) (lastI (gLn l)) 1 r) :
    (fvR a l t < 0 ∧ decide (1 ≤ fvF a l t (lastI (gLn l))) = false) ∨ (fvR a l t = r ∧ 0 ≤ r ∧ decide (1 ≤ fvF a l t (lastI (gLn l))) = true) := by
  have hN := wd_len hok
  have hf : ∀ j, fvF a l t j = cwW a.nx t a.sa.toNat ((wd l).take j.toNat) := fun j => fvF_eq ha hok ht j
  have hfN : fvF a l t (lastI (gLn l)) = cwW a.nx t a.sa.toNat (wd l) := by
    rw [hf, show (lastI (gLn l)).toNat = (wd l).length by omega, List.take_length]
  have hR := fvR_law ha hok ht
  generalize fvR a l t = R at *
  by_cases hc : 1 ≤ fvF a l t (lastI (gLn l))
  · right
    have hl := lv_of_ls hN (fun j _ _ => hf j) h hc
    rcases hR with ⟨-, e⟩ | ⟨-, e⟩
    · omega
    · exact ⟨lvP_uniq e hl, hl.1, decide_eq_true hc⟩
  · left
    rcases hR with ⟨e, -⟩ | ⟨e, -⟩
    · exact ⟨by omega, decide_eq_false hc⟩
    · omega
theorem fvF_mono {a : Au} {l : List Ru} (ha : auOk a = true) (hok : gOk l = true) {t : Nat} (ht : t < a.nx.length) : ∀ i j, 0 ≤ i → i ≤ j → j ≤ lastI (gLn l) → fvF a l t i ≤ fvF a l t j := by
  intro i j h0 h1 h2
  rw [fvF_eq ha hok ht, fvF_eq ha hok ht]
  exact cwW_mono _ _ _ _ (by omega)
def fvV (a : Au) (l : List Ru) (s : Int) : Int := if (gOk l && auOk a) = true then (if 0 ≤ s ∧ s ≤ a.st - 1 then (if s = a.sa then 0 else (if fvR a l s.toNat < 0 then 0 else fvR a l s.toNat)) else 0) else 0
def fvC (a : Au) (l : List Ru) (s : Int) : Int := if (gOk l && auOk a) = true then (if 0 ≤ s ∧ s ≤ a.st - 1 then (if s = a.sa then 0 else (if fvR a l s.toNat < 0 then 6 else 0)) else 2) else 1
theorem rd7_later {B : Nat} {c0 c1 c2 c3 c4 c5 c6 : Value} {w w' : World} (h : rd7 B c0 c1 c2 c3 c4 c5 c6 w) (hb : Below w.heap.size w w') : rd7 B c0 c1 c2 c3 c4 c5 c6 w' := rd7_gp (P := fun _ => False) h (Gp.ofBelow hb) (fun h => h)
end Go.Proofs.Ytimfbnjgodbgoaa

/- A ride of a pattern. -/
namespace Go.Proofs.Ytimfbnjgodbgoaa
open Go.ChangeShapes Go.WideShapes Go.RowKit
set_option linter.unusedVariables false
set_option linter.unusedSimpArgs false
set_option maxHeartbeats 1000000
set_option maxRecDepth 100000
theorem own_get2 {w : World} {base e : Nat} {n : Nat} {v : Value} {xs : List Int} (h : w.ownsRow base e 1 v n (xs.map (Value.int .i64))) (hl : xs.length = n) {k : Nat} (hk : k < n) : ∃ g cap, v = .slice (some ⟨g, 0, none⟩) n cap ∧ w.cell? ⟨g, k, none⟩ = some (.int .i64 (xs.getD k 0)) := by
  obtain ⟨a, cap, rfl, hs, -⟩ := owns_sl3 h
  obtain ⟨g, rfl⟩ := hs (by omega)
  exact ⟨g, cap, rfl, own_get h hl hk⟩
theorem paR_at (p : ByteArray) (s : Nat) : ∀ {n c : Nat}, c < n → (paR p s n).getD c 0 = paE p s c
  | 0, c, h => by omega
  | n + 1, c, h => by
    rw [paR]
    by_cases he : c < n
    · rw [List.getD, List.getElem?_append_left (by rw [paR_len]; exact he)]
      exact paR_at p s he
    · obtain rfl : c = n := by omega
      rw [List.getD, List.getElem?_append_right (by rw [paR_len]; exact Nat.le_refl _)]
      simp [paR_len]
theorem paA_nx (p : ByteArray) : (paA p).nx.length = p.size + 1 := paT_len p (p.size + 1)
theorem paA_ok {p : ByteArray} (h : p.size ≤ 20) : auOk (paA p) = true := by
  have e1 : (paA p).st = (p.size : Int) + 1 := rfl
  have e2 : (paA p).sa = 0 := rfl
  have e3 : (paA p).fi = [(p.size : Int)] := rfl
  have h1 : riOk ((paA p).st - 1) (paA p).fi = true := by
    rw [e1, e3]
    refine riOk_t (fun t ht => ?_)
    have ht : t < 1 := ht
    obtain rfl : t = 0 := by omega
    refine ⟨?_, fun h => absurd h (by omega)⟩
    show 0 ≤ (p.size : Int) ∧ (p.size : Int) ≤ (p.size : Int) + 1 - 1
    omega
  have h2 : nxOk ((paA p).st - 1) (paA p).nx = true := by
    refine nxOk_t (fun s hs => ?_)
    rw [paA_nx] at hs
    have e4 : tA (paA p).nx s = paR p s 4 := paT_row p hs
    rw [e4]
    refine ⟨paR_len p s 4, fun c hc => ?_⟩
    rw [paR_at p s hc, paE, e1]
    have := fitF_le p (paX p s c) (min p.size (s + 1))
    omega
  rw [auOk, h1, h2, paA_nx, e1, e2]
  simp
  omega
theorem paA_sm {p : ByteArray} (h : p.size ≤ 20) : auSm (paA p) := by
  have h1 := paA_ok h
  obtain ⟨f1, f2, f3, f4, f5⟩ := auOk_facts h1
  refine ⟨by show ([(p.size : Int)] : List Int).length ≤ 1048576; simp, by rw [paA_nx]; omega, fun r hr => ?_⟩
  obtain ⟨j, hj, rfl⟩ := List.getElem_of_mem hr
  have := (f5 j hj).1
  rw [tA, List.getD, List.getElem?_eq_getElem hj] at this
  simp only [Option.getD_some] at this
  omega
def skC (p : ByteArray) (l : List Ru) : Int := if gOk l = false then 1 else paC p
theorem skC_ok {p : ByteArray} {l : List Ru} (h : skC p l = 0) : gOk l = true ∧ paC p = 0 := by
  unfold skC at h
  cases hg : gOk l
  · rw [hg] at h; simp at h
  · rw [hg] at h; exact ⟨rfl, by simpa using h⟩
theorem s_l04Asked2 (bq oq cap : Nat) (ag : Option Addr) (p : ByteArray) (l : List Ru) (w : World) (hz : p.size ≤ 1048576) (hn : l.length ≤ 1048576) (hsz : ∀ r ∈ l, r.1.size ≤ 1048576) (hc : w.cell? ⟨bq, oq, none⟩ = some (.slice ag l.length cap)) (hg : InRu w (.slice ag l.length cap) l) :
    Calls Try.prog 46 #[.pointer (some ⟨bq, oq, none⟩), .string p] w fun e w' => e = .returned (.int .i64 (skC p l)) ∧ Below w.heap.size w w' := by
  have HG := Lib.hid (s_l02Ok bq oq cap ag l w hn hsz hc hg)
  have HV := Lib.hid (fun w => s_l01Ok p w (by unfold maxLen; omega))
  clear hc hg hsz
  cases hok : gOk l
  · have e : skC p l = 1 := by simp [skC, hok]
    rw [e]
    rw [hok] at HG
    clear e hok HV
    go_enter Try.func46, Try.ntmps46
    go_wp2_with fail
    refine (HG.out).mono ?_
    rintro e w2 ⟨rfl, hb2⟩
    go_wp2
    go_ret
    exact ⟨rfl, hb2⟩
  · have esk : skC p l = paC p := by simp [skC, hok]
    rw [esk]
    rw [hok] at HG
    clear hok esk
    cases hv : validB p
    · have e : paC p = 1 := by simp [paC, hv]
      rw [e]
      rw [hv] at HV
      clear e hv
      go_enter Try.func46, Try.ntmps46
      go_wp2_with fail
      refine (HG.out).mono ?_
      rintro e w2 ⟨rfl, hb2⟩
      go_wp2_with fail
      refine (HV.out _).mono ?_
      rintro e w3 ⟨rfl, rfl⟩
      go_wp2
      go_ret
      exact ⟨rfl, hb2⟩
    · rw [hv] at HV
      by_cases h0 : p.size = 0
      · have e : paC p = 4 := by simp [paC, hv, h0]
        obtain rfl := size_zero h0
        rw [e]
        clear hv h0 e
        go_enter Try.func46, Try.ntmps46
        go_wp2_with fail
        refine (HG.out).mono ?_
        rintro e w2 ⟨rfl, hb2⟩
        go_wp2_with fail
        refine (HV.out _).mono ?_
        rintro e w3 ⟨rfl, rfl⟩
        go_wp2
        go_ret
        exact ⟨rfl, hb2⟩
      · have hne := neq_empty h0
        have hne2 := not_empty h0
        by_cases h1 : 20 < p.size
        · have e : paC p = 3 := by simp [paC, hv, h0, h1]
          rw [e]
          have hin : (20 : Int) < p.size := by omega
          clear hv h0 e
          go_enter Try.func46, Try.ntmps46
          go_wp2_with fail
          refine (HG.out).mono ?_
          rintro e w2 ⟨rfl, hb2⟩
          go_wp2_with fail
          refine (HV.out _).mono ?_
          rintro e w3 ⟨rfl, rfl⟩
          go_wp2
          go_ret
          exact ⟨rfl, hb2⟩
        · have e : paC p = 0 := by simp [paC, hv, h0, h1]
          rw [e]
          have hin : ¬ (20 : Int) < p.size := by omega
          clear hv h0 e
          go_enter Try.func46, Try.ntmps46
          go_wp2_with fail
          refine (HG.out).mono ?_
          rintro e w2 ⟨rfl, hb2⟩
          go_wp2_with fail
          refine (HV.out _).mono ?_
          rintro e w3 ⟨rfl, rfl⟩
          go_wp2
          go_ret
          exact ⟨rfl, hb2⟩
theorem auR7 {base b : Nat} {w : World} {f v : Value} {vs : List Value} {a : Au} {v0 v1 v2 v3 v4 v5 v6 : Value} (h : AuR base w f v vs a) (hb : b < base) : AuR base (set7 w b v0 v1 v2 v3 v4 v5 v6) f v vs a := by
  unfold set7
  exact auR_set (auR_set (auR_set (auR_set (auR_set (auR_set (auR_set h hb) hb) hb) hb) hb) hb) hb
def skO (base : Nat) (w : World) (u1 u2 vl vm : Value) (p : ByteArray) (l : List Ru) : Prop := w.ownsRow base 2 1 u1 (paA p).fi.length (iv (paA p).fi) ∧ OwnT base w u2 (paA p).nx ∧ w.ownsRow base 2 1 vl l.length ((gLn l).map (Value.int .i64)) ∧ OwnT base w vm (gSm (paA p).nx l)
theorem skO_after {base : Nat} {w w' : World} {u1 u2 vl vm : Value} {p : ByteArray} {l : List Ru} (h : skO base w u1 u2 vl vm p l) (hb : Below w.heap.size w w') : skO base w' u1 u2 vl vm p l := ⟨owns_after h.1 hb, ownT_after h.2.1 hb, owns_after h.2.2.1 hb, ownT_after h.2.2.2 hb⟩
theorem skO7 {base b : Nat} {w : World} {u1 u2 vl vm : Value} {p : ByteArray} {l : List Ru} {v0 v1 v2 v3 v4 v5 v6 : Value} (h : skO base w u1 u2 vl vm p l) (hb : b < base) : skO base (set7 w b v0 v1 v2 v3 v4 v5 v6) u1 u2 vl vm p l := ⟨own7 h.1 hb, ownT7 h.2.1 hb, own7 h.2.2.1 hb, ownT7 h.2.2.2 hb⟩
theorem skO_rd {base : Nat} {w : World} {u1 u2 vg vl vm : Value} {p : ByteArray} {l : List Ru} (h : skO base w u1 u2 vl vm p l) (hg : InRu w vg l) : InRd w u1 u2 vg vl vm (paA p) l := ⟨inI_own h.1, ownT_in h.2.1, hg, ⟨_, h.2.2.1⟩, ownT_in h.2.2.2⟩
theorem share_seek {P : Prop} (F : Nat → World → Option Addr → Nat → Option Addr → Nat → Option Addr → Nat → Option Addr → Nat → Prop) {G : Nat → World → Option Addr → Nat → Option Addr → Nat → Option Addr → Nat → Option Addr → Nat → Prop} (h : (∀ b w i j k m n o q r, F b w i j k m n o q r → G b w i j k m n o q r) → P) (rest : ∀ b w i j k m n o q r, F b w i j k m n o q r → G b w i j k m n o q r) : P := h rest
theorem i_seek (vg : Value) (p : ByteArray) (l : List Ru) (w : World) (hz : p.size ≤ 1048576) (hn : l.length ≤ 1048576) (hsz : ∀ r ∈ l, r.1.size ≤ 1048576) (hg : InRu w vg l) (h0 : skC p l = 0) :
    Calls Try.prog 40 #[.agg #[vg], .string p] w fun e w' => ∃ u1 u2 vl vm, e = .returned (.tuple #[.agg #[.int .i64 (paA p).st, .int .i64 (paA p).sa, u1, u2, vg, vl, vm], .int .i64 0]) ∧ InRd w' u1 u2 vg vl vm (paA p) l ∧ Below w.heap.size w w' := by
  obtain ⟨ag, kg, rfl⟩ := inRu_sl hg
  obtain ⟨hok, hpc⟩ := skC_ok h0
  obtain ⟨hv, hp0, hp20⟩ := paC_ok hpc
  have hbx := ((Below.refl w.heap.size w).alloc (Nat.le_refl _) (.cells #[.slice ag l.length kg] 26)).alloc (by simp) (.cells #[.int .i64 0, .int .i64 0, .slice none 0 0, .slice none 0 0, .slice none 0 0, .slice none 0 0, .slice none 0 0] 69)
  have HBX : Hid (∀ w', Below ((w.alloc (.cells #[.slice ag l.length kg] 26)).alloc (.cells #[.int .i64 0, .int .i64 0, .slice none 0 0, .slice none 0 0, .slice none 0 0, .slice none 0 0, .slice none 0 0] 69)).heap.size ((w.alloc (.cells #[.slice ag l.length kg] 26)).alloc (.cells #[.int .i64 0, .int .i64 0, .slice none 0 0, .slice none 0 0, .slice none 0 0, .slice none 0 0, .slice none 0 0] 69)) w' → Below w.heap.size w w') := fun w' h => below_box (below_box h)
  have HG0 := Lib.hid hg
  have HIG := Lib.hid (inRu_below hg hbx)
  have HG := Lib.hid (i_ValidGrammar (.slice ag l.length kg) l _ hn hsz HIG.out)
  have HV := Lib.hid (fun w => i_ValidWord p w (by unfold maxLen; omega))
  have HPC := Lib.hid (fun w => i_patternCode p w hv)
  rw [hok] at HG
  rw [hv] at HV
  rw [hpc] at HPC
  have HP20 := Lib.hid hp20
  have HSM := Lib.hid (paA_sm hp20)
  have HSZ := Lib.hid hsz
  have HOK2 : Hid ((gOk l && auOk (paA p)) = true) := by show _ = _; rw [hok, paA_ok hp20]; rfl
  have HOK := Lib.hid hok
  clear hg h0 hok hpc hv hsz hbx hp20 hp0
  go_enter Try.func40, Try.ntmps40
  go_wp2_with fail
  refine HG.out.mono ?_
  rintro e w2 ⟨rfl, hb2⟩
  go_wp2_with fail
  refine (HV.out _).mono ?_
  rintro e w2' ⟨rfl, rfl⟩
  go_wp2_with fail
  refine (HPC.out _).mono ?_
  rintro e w3 ⟨rfl, rfl⟩
  obtain ⟨w3, rfl⟩ : ∃ w3, w3 = w2 := ⟨_, rfl⟩
  have HG3 := Lib.hid (inRu_below HIG.out hb2)
  have HB3 := Lib.hid (HBX.out _ hb2)
  have c0 : w3.cell? ⟨w.heap.size, 0, none⟩ = some (.slice ag l.length kg) := by rw [hb2.cell (by first | (simp; done) | (simp; omega))]; simp [go_sem]
  have HZ : Hid (rd7 (w.heap.size + 1) (.int .i64 0) (.int .i64 0) (.slice none 0 0) (.slice none 0 0) (.slice none 0 0) (.slice none 0 0) (.slice none 0 0) w3) := ⟨by rw [hb2.cell (by first | (simp; done) | (simp; omega))]; simp [go_sem], by rw [hb2.cell (by first | (simp; done) | (simp; omega))]; simp [go_sem], by rw [hb2.cell (by first | (simp; done) | (simp; omega))]; simp [go_sem], by rw [hb2.cell (by first | (simp; done) | (simp; omega))]; simp [go_sem], by rw [hb2.cell (by first | (simp; done) | (simp; omega))]; simp [go_sem], by rw [hb2.cell (by first | (simp; done) | (simp; omega))]; simp [go_sem], by rw [hb2.cell (by first | (simp; done) | (simp; omega))]; simp [go_sem]⟩
  have HFZ : Hid (∀ j, w3.frozen? ⟨w.heap.size + 1, j, none⟩ = false) := fun j => by rw [hb2.frozen (by simp)]; simp [go_sem]
  have hlt : w.heap.size + 1 < w3.heap.size := World.block_lt_of_cell? _ _ HZ.out.1
  have HSS : Hid (∀ w', Below w3.heap.size w3 w' → w'.cell? ⟨w.heap.size, 0, none⟩ = some (.slice ag l.length kg)) := fun w' h => cell_later h c0
  clear hb2 HG HV HPC HIG
  go_wp2
  apply share_seek (fun bb wz a1 k1 a2 k2 al kl am km => Below w3.heap.size w3 wz ∧ rd7 bb (.int .i64 (paA p).st) (.int .i64 (paA p).sa) (.slice a1 (paA p).fi.length k1) (.slice a2 (paA p).nx.length k2) (.slice ag l.length kg) (.slice al (gLn l).length kl) (.slice am (gSm (paA p).nx l).length km) wz ∧ skO w3.heap.size wz (.slice a1 (paA p).fi.length k1) (.slice a2 (paA p).nx.length k2) (.slice al (gLn l).length kl) (.slice am (gSm (paA p).nx l).length km) p l)
  · intro REST0
    have REST := Lib.hid REST0
    clear REST0
    go_region_held3 (fun w' => w'.cell? ⟨w.heap.size, 0, none⟩ = some (.slice ag l.length kg)) (exact HSS.out _ (by (repeat (first | with_reducible exact Below.refl _ _ | with_reducible apply Below.drew | with_reducible apply bl_alloc | with_reducible apply bl_set | (with_reducible refine bl_tr ?_ hS) | (with_reducible refine bl_tr ?_ hT))); done)) (first | (go_at_call 45; with_reducible refine (i_patternAuto p _ HP20.out).mono ?_; rintro e wT ⟨x1, x2, vs, rfl, hA, hT⟩; obtain ⟨a1, k1, rfl⟩ := inI_sl (auR_inI hA); obtain ⟨a2, k2, rfl⟩ := inT_sl (auR_inT hA)) | (go_at_call 60; with_reducible refine (i_newRide _ _ (.slice ag l.length kg) (paA p) l _ HSM.out hn HSZ.out (inI_below (auR_inI hA) (by (repeat (first | with_reducible exact Below.refl _ _ | with_reducible apply Below.drew | with_reducible apply bl_alloc | with_reducible apply bl_set | (with_reducible refine bl_tr ?_ hS) | (with_reducible refine bl_tr ?_ hT))); done)) (inT_below (auR_inT hA) (by (repeat (first | with_reducible exact Below.refl _ _ | with_reducible apply Below.drew | with_reducible apply bl_alloc | with_reducible apply bl_set | (with_reducible refine bl_tr ?_ hS) | (with_reducible refine bl_tr ?_ hT))); done)) (inRu_below HG3.out (by (repeat (first | with_reducible exact Below.refl _ _ | with_reducible apply Below.drew | with_reducible apply bl_alloc | with_reducible apply bl_set | (with_reducible refine bl_tr ?_ hS) | (with_reducible refine bl_tr ?_ hT))); done)) HOK2.out).mono ?_; rintro e wS ⟨vl, vm, rfl, hol, hom, hS⟩; obtain ⟨al, kl, rfl, -, -⟩ := owns_sl3 hol; obtain ⟨am, km, rfl⟩ := inT_sl (ownT_in hom); refine bl_hv (P := Below (wT.alloc (.cells #[.int .i64 0, .int .i64 0, .slice none 0 0, .slice none 0 0, .slice none 0 0, .slice none 0 0, .slice none 0 0] 69)).heap.size (wT.alloc (.cells #[.int .i64 0, .int .i64 0, .slice none 0 0, .slice none 0 0, .slice none 0 0, .slice none 0 0, .slice none 0 0] 69)) wS) ?_ (fun hLB => ?_); (focus ((repeat (first | with_reducible exact Below.refl _ _ | with_reducible apply Below.drew | with_reducible apply bl_alloc | with_reducible apply bl_set | (with_reducible refine bl_tr ?_ hS) | (with_reducible refine bl_tr ?_ hT))); done)); have y0 : wS.cell? ⟨wT.heap.size, 0, none⟩ = some (.int .i64 0) := cell_later hLB (by simp [go_sem]); have y1 : wS.cell? ⟨wT.heap.size, 1, none⟩ = some (.int .i64 0) := cell_later hLB (by simp [go_sem]); have y2 : wS.cell? ⟨wT.heap.size, 2, none⟩ = some (.slice none 0 0) := cell_later hLB (by simp [go_sem]); have y3 : wS.cell? ⟨wT.heap.size, 3, none⟩ = some (.slice none 0 0) := cell_later hLB (by simp [go_sem]); have y4 : wS.cell? ⟨wT.heap.size, 4, none⟩ = some (.slice none 0 0) := cell_later hLB (by simp [go_sem]); have y5 : wS.cell? ⟨wT.heap.size, 5, none⟩ = some (.slice none 0 0) := cell_later hLB (by simp [go_sem]); have y6 : wS.cell? ⟨wT.heap.size, 6, none⟩ = some (.slice none 0 0) := cell_later hLB (by simp [go_sem]); have fy : ∀ j, wS.frozen? ⟨wT.heap.size, j, none⟩ = false := (fun j => by rw [hLB.frozen (by simp)]; simp [go_sem]); have hol2 := owns_weak (base' := wT.heap.size + 1) hol (Nat.le_trans (by simp : wT.heap.size + 1 ≤ (wT.alloc (.cells #[.int .i64 0, .int .i64 0, .slice none 0 0, .slice none 0 0, .slice none 0 0, .slice none 0 0, .slice none 0 0] 69)).heap.size) (bl_size (w := (wT.alloc (.cells #[.int .i64 0, .int .i64 0, .slice none 0 0, .slice none 0 0, .slice none 0 0, .slice none 0 0, .slice none 0 0] 69))) (by (repeat (first | with_reducible exact Below.refl _ _ | with_reducible apply Below.drew | with_reducible apply bl_alloc | with_reducible apply bl_set | (with_reducible refine bl_tr ?_ hS) | (with_reducible refine bl_tr ?_ hT))); done))); have hom2 := ownT_weak (base' := wT.heap.size + 1) hom (Nat.le_trans (by simp : wT.heap.size + 1 ≤ (wT.alloc (.cells #[.int .i64 0, .int .i64 0, .slice none 0 0, .slice none 0 0, .slice none 0 0, .slice none 0 0, .slice none 0 0] 69)).heap.size) (bl_size (w := (wT.alloc (.cells #[.int .i64 0, .int .i64 0, .slice none 0 0, .slice none 0 0, .slice none 0 0, .slice none 0 0, .slice none 0 0] 69))) (by (repeat (first | with_reducible exact Below.refl _ _ | with_reducible apply Below.drew | with_reducible apply bl_alloc | with_reducible apply bl_set | (with_reducible refine bl_tr ?_ hS) | (with_reducible refine bl_tr ?_ hT))); done))); clear hol hom; have hol := hol2; have hom := hom2; clear hol2 hom2; clear hLB; obtain ⟨bb, hbb⟩ : ∃ b, b = wT.heap.size := ⟨_, rfl⟩) | (go_at_call 60; with_reducible refine (i_newRide _ _ (.slice ag l.length kg) (paA p) l _ HSM.out hn HSZ.out (inI_below (auR_inI hA) (by (repeat (first | with_reducible exact Below.refl _ _ | with_reducible apply Below.drew | with_reducible apply bl_alloc | with_reducible apply bl_set | (with_reducible refine bl_tr ?_ hS) | (with_reducible refine bl_tr ?_ hT))); done)) (inT_below (auR_inT hA) (by (repeat (first | with_reducible exact Below.refl _ _ | with_reducible apply Below.drew | with_reducible apply bl_alloc | with_reducible apply bl_set | (with_reducible refine bl_tr ?_ hS) | (with_reducible refine bl_tr ?_ hT))); done)) (inRu_below HG3.out (by (repeat (first | with_reducible exact Below.refl _ _ | with_reducible apply Below.drew | with_reducible apply bl_alloc | with_reducible apply bl_set | (with_reducible refine bl_tr ?_ hS) | (with_reducible refine bl_tr ?_ hT))); done)) HOK2.out).mono ?_; rintro e wS ⟨vl, vm, rfl, hol, hom, hS⟩; obtain ⟨al, kl, rfl, -, -⟩ := owns_sl3 hol; obtain ⟨am, km, rfl⟩ := inT_sl (ownT_in hom); refine bl_hv (P := Below (wT.drew.alloc (.cells #[.int .i64 0, .int .i64 0, .slice none 0 0, .slice none 0 0, .slice none 0 0, .slice none 0 0, .slice none 0 0] 69)).heap.size (wT.drew.alloc (.cells #[.int .i64 0, .int .i64 0, .slice none 0 0, .slice none 0 0, .slice none 0 0, .slice none 0 0, .slice none 0 0] 69)) wS) ?_ (fun hLB => ?_); (focus ((repeat (first | with_reducible exact Below.refl _ _ | with_reducible apply Below.drew | with_reducible apply bl_alloc | with_reducible apply bl_set | (with_reducible refine bl_tr ?_ hS) | (with_reducible refine bl_tr ?_ hT))); done)); have y0 : wS.cell? ⟨wT.heap.size, 0, none⟩ = some (.int .i64 0) := cell_later hLB (by simp [go_sem]); have y1 : wS.cell? ⟨wT.heap.size, 1, none⟩ = some (.int .i64 0) := cell_later hLB (by simp [go_sem]); have y2 : wS.cell? ⟨wT.heap.size, 2, none⟩ = some (.slice none 0 0) := cell_later hLB (by simp [go_sem]); have y3 : wS.cell? ⟨wT.heap.size, 3, none⟩ = some (.slice none 0 0) := cell_later hLB (by simp [go_sem]); have y4 : wS.cell? ⟨wT.heap.size, 4, none⟩ = some (.slice none 0 0) := cell_later hLB (by simp [go_sem]); have y5 : wS.cell? ⟨wT.heap.size, 5, none⟩ = some (.slice none 0 0) := cell_later hLB (by simp [go_sem]); have y6 : wS.cell? ⟨wT.heap.size, 6, none⟩ = some (.slice none 0 0) := cell_later hLB (by simp [go_sem]); have fy : ∀ j, wS.frozen? ⟨wT.heap.size, j, none⟩ = false := (fun j => by rw [hLB.frozen (by simp)]; simp [go_sem]); have hol2 := owns_weak (base' := wT.heap.size + 1) hol (Nat.le_trans (by simp : wT.heap.size + 1 ≤ (wT.drew.alloc (.cells #[.int .i64 0, .int .i64 0, .slice none 0 0, .slice none 0 0, .slice none 0 0, .slice none 0 0, .slice none 0 0] 69)).heap.size) (bl_size (w := (wT.drew.alloc (.cells #[.int .i64 0, .int .i64 0, .slice none 0 0, .slice none 0 0, .slice none 0 0, .slice none 0 0, .slice none 0 0] 69))) (by (repeat (first | with_reducible exact Below.refl _ _ | with_reducible apply Below.drew | with_reducible apply bl_alloc | with_reducible apply bl_set | (with_reducible refine bl_tr ?_ hS) | (with_reducible refine bl_tr ?_ hT))); done))); have hom2 := ownT_weak (base' := wT.heap.size + 1) hom (Nat.le_trans (by simp : wT.heap.size + 1 ≤ (wT.drew.alloc (.cells #[.int .i64 0, .int .i64 0, .slice none 0 0, .slice none 0 0, .slice none 0 0, .slice none 0 0, .slice none 0 0] 69)).heap.size) (bl_size (w := (wT.drew.alloc (.cells #[.int .i64 0, .int .i64 0, .slice none 0 0, .slice none 0 0, .slice none 0 0, .slice none 0 0, .slice none 0 0] 69))) (by (repeat (first | with_reducible exact Below.refl _ _ | with_reducible apply Below.drew | with_reducible apply bl_alloc | with_reducible apply bl_set | (with_reducible refine bl_tr ?_ hS) | (with_reducible refine bl_tr ?_ hT))); done))); clear hol hom; have hol := hol2; have hom := hom2; clear hol2 hom2; clear hLB; obtain ⟨bb, hbb⟩ : ∃ b, b = wT.heap.size := ⟨_, rfl⟩) | (go_at_call 60; with_reducible refine (i_newRide _ _ (.slice ag l.length kg) (paA p) l _ HSM.out hn HSZ.out (inI_below (auR_inI hA) (by (repeat (first | with_reducible exact Below.refl _ _ | with_reducible apply Below.drew | with_reducible apply bl_alloc | with_reducible apply bl_set | (with_reducible refine bl_tr ?_ hS) | (with_reducible refine bl_tr ?_ hT))); done)) (inT_below (auR_inT hA) (by (repeat (first | with_reducible exact Below.refl _ _ | with_reducible apply Below.drew | with_reducible apply bl_alloc | with_reducible apply bl_set | (with_reducible refine bl_tr ?_ hS) | (with_reducible refine bl_tr ?_ hT))); done)) (inRu_below HG3.out (by (repeat (first | with_reducible exact Below.refl _ _ | with_reducible apply Below.drew | with_reducible apply bl_alloc | with_reducible apply bl_set | (with_reducible refine bl_tr ?_ hS) | (with_reducible refine bl_tr ?_ hT))); done)) HOK2.out).mono ?_; rintro e wS ⟨vl, vm, rfl, hol, hom, hS⟩; obtain ⟨al, kl, rfl, -, -⟩ := owns_sl3 hol; obtain ⟨am, km, rfl⟩ := inT_sl (ownT_in hom); refine bl_hv (P := Below (w3.alloc (.cells #[.int .i64 0, .int .i64 0, .slice none 0 0, .slice none 0 0, .slice none 0 0, .slice none 0 0, .slice none 0 0] 69)).heap.size (w3.alloc (.cells #[.int .i64 0, .int .i64 0, .slice none 0 0, .slice none 0 0, .slice none 0 0, .slice none 0 0, .slice none 0 0] 69)) wS) ?_ (fun hLB => ?_); (focus ((repeat (first | with_reducible exact Below.refl _ _ | with_reducible apply Below.drew | with_reducible apply bl_alloc | with_reducible apply bl_set | (with_reducible refine bl_tr ?_ hS) | (with_reducible refine bl_tr ?_ hT))); done)); have y0 : wS.cell? ⟨w3.heap.size, 0, none⟩ = some (.int .i64 0) := cell_later hLB (by simp [go_sem]); have y1 : wS.cell? ⟨w3.heap.size, 1, none⟩ = some (.int .i64 0) := cell_later hLB (by simp [go_sem]); have y2 : wS.cell? ⟨w3.heap.size, 2, none⟩ = some (.slice none 0 0) := cell_later hLB (by simp [go_sem]); have y3 : wS.cell? ⟨w3.heap.size, 3, none⟩ = some (.slice none 0 0) := cell_later hLB (by simp [go_sem]); have y4 : wS.cell? ⟨w3.heap.size, 4, none⟩ = some (.slice none 0 0) := cell_later hLB (by simp [go_sem]); have y5 : wS.cell? ⟨w3.heap.size, 5, none⟩ = some (.slice none 0 0) := cell_later hLB (by simp [go_sem]); have y6 : wS.cell? ⟨w3.heap.size, 6, none⟩ = some (.slice none 0 0) := cell_later hLB (by simp [go_sem]); have fy : ∀ j, wS.frozen? ⟨w3.heap.size, j, none⟩ = false := (fun j => by rw [hLB.frozen (by simp)]; simp [go_sem]); have hol2 := owns_weak (base' := w3.heap.size + 1) hol (Nat.le_trans (by simp : w3.heap.size + 1 ≤ (w3.alloc (.cells #[.int .i64 0, .int .i64 0, .slice none 0 0, .slice none 0 0, .slice none 0 0, .slice none 0 0, .slice none 0 0] 69)).heap.size) (bl_size (w := (w3.alloc (.cells #[.int .i64 0, .int .i64 0, .slice none 0 0, .slice none 0 0, .slice none 0 0, .slice none 0 0, .slice none 0 0] 69))) (by (repeat (first | with_reducible exact Below.refl _ _ | with_reducible apply Below.drew | with_reducible apply bl_alloc | with_reducible apply bl_set | (with_reducible refine bl_tr ?_ hS) | (with_reducible refine bl_tr ?_ hT))); done))); have hom2 := ownT_weak (base' := w3.heap.size + 1) hom (Nat.le_trans (by simp : w3.heap.size + 1 ≤ (w3.alloc (.cells #[.int .i64 0, .int .i64 0, .slice none 0 0, .slice none 0 0, .slice none 0 0, .slice none 0 0, .slice none 0 0] 69)).heap.size) (bl_size (w := (w3.alloc (.cells #[.int .i64 0, .int .i64 0, .slice none 0 0, .slice none 0 0, .slice none 0 0, .slice none 0 0, .slice none 0 0] 69))) (by (repeat (first | with_reducible exact Below.refl _ _ | with_reducible apply Below.drew | with_reducible apply bl_alloc | with_reducible apply bl_set | (with_reducible refine bl_tr ?_ hS) | (with_reducible refine bl_tr ?_ hT))); done))); clear hol hom; have hol := hol2; have hom := hom2; clear hol2 hom2; have hA2 := auR_weak (base' := w3.heap.size + 1) (auR_after hA (show Below wT.heap.size wT wS from (by (repeat (first | with_reducible exact Below.refl _ _ | with_reducible apply Below.drew | with_reducible apply bl_alloc | with_reducible apply bl_set | (with_reducible refine bl_tr ?_ hS) | (with_reducible refine bl_tr ?_ hT))); done))) (Nat.le_trans (by simp : w3.heap.size + 1 ≤ (w3.alloc (.cells #[.int .i64 0, .int .i64 0, .slice none 0 0, .slice none 0 0, .slice none 0 0, .slice none 0 0, .slice none 0 0] 69)).heap.size) (bl_size (w := (w3.alloc (.cells #[.int .i64 0, .int .i64 0, .slice none 0 0, .slice none 0 0, .slice none 0 0, .slice none 0 0, .slice none 0 0] 69))) (by (repeat (first | with_reducible exact Below.refl _ _ | with_reducible apply Below.drew | with_reducible apply bl_alloc | with_reducible apply bl_set | (with_reducible refine bl_tr ?_ hS) | (with_reducible refine bl_tr ?_ hT))); done))); clear hLB; obtain ⟨bb, hbb⟩ : ∃ b, b = w3.heap.size := ⟨_, rfl⟩) | (go_at_call 60; with_reducible refine (i_newRide _ _ (.slice ag l.length kg) (paA p) l _ HSM.out hn HSZ.out (inI_below (auR_inI hA) (by (repeat (first | with_reducible exact Below.refl _ _ | with_reducible apply Below.drew | with_reducible apply bl_alloc | with_reducible apply bl_set | (with_reducible refine bl_tr ?_ hS) | (with_reducible refine bl_tr ?_ hT))); done)) (inT_below (auR_inT hA) (by (repeat (first | with_reducible exact Below.refl _ _ | with_reducible apply Below.drew | with_reducible apply bl_alloc | with_reducible apply bl_set | (with_reducible refine bl_tr ?_ hS) | (with_reducible refine bl_tr ?_ hT))); done)) (inRu_below HG3.out (by (repeat (first | with_reducible exact Below.refl _ _ | with_reducible apply Below.drew | with_reducible apply bl_alloc | with_reducible apply bl_set | (with_reducible refine bl_tr ?_ hS) | (with_reducible refine bl_tr ?_ hT))); done)) HOK2.out).mono ?_; rintro e wS ⟨vl, vm, rfl, hol, hom, hS⟩; obtain ⟨al, kl, rfl, -, -⟩ := owns_sl3 hol; obtain ⟨am, km, rfl⟩ := inT_sl (ownT_in hom); refine bl_hv (P := Below (w3.drew.alloc (.cells #[.int .i64 0, .int .i64 0, .slice none 0 0, .slice none 0 0, .slice none 0 0, .slice none 0 0, .slice none 0 0] 69)).heap.size (w3.drew.alloc (.cells #[.int .i64 0, .int .i64 0, .slice none 0 0, .slice none 0 0, .slice none 0 0, .slice none 0 0, .slice none 0 0] 69)) wS) ?_ (fun hLB => ?_); (focus ((repeat (first | with_reducible exact Below.refl _ _ | with_reducible apply Below.drew | with_reducible apply bl_alloc | with_reducible apply bl_set | (with_reducible refine bl_tr ?_ hS) | (with_reducible refine bl_tr ?_ hT))); done)); have y0 : wS.cell? ⟨w3.heap.size, 0, none⟩ = some (.int .i64 0) := cell_later hLB (by simp [go_sem]); have y1 : wS.cell? ⟨w3.heap.size, 1, none⟩ = some (.int .i64 0) := cell_later hLB (by simp [go_sem]); have y2 : wS.cell? ⟨w3.heap.size, 2, none⟩ = some (.slice none 0 0) := cell_later hLB (by simp [go_sem]); have y3 : wS.cell? ⟨w3.heap.size, 3, none⟩ = some (.slice none 0 0) := cell_later hLB (by simp [go_sem]); have y4 : wS.cell? ⟨w3.heap.size, 4, none⟩ = some (.slice none 0 0) := cell_later hLB (by simp [go_sem]); have y5 : wS.cell? ⟨w3.heap.size, 5, none⟩ = some (.slice none 0 0) := cell_later hLB (by simp [go_sem]); have y6 : wS.cell? ⟨w3.heap.size, 6, none⟩ = some (.slice none 0 0) := cell_later hLB (by simp [go_sem]); have fy : ∀ j, wS.frozen? ⟨w3.heap.size, j, none⟩ = false := (fun j => by rw [hLB.frozen (by simp)]; simp [go_sem]); have hol2 := owns_weak (base' := w3.heap.size + 1) hol (Nat.le_trans (by simp : w3.heap.size + 1 ≤ (w3.drew.alloc (.cells #[.int .i64 0, .int .i64 0, .slice none 0 0, .slice none 0 0, .slice none 0 0, .slice none 0 0, .slice none 0 0] 69)).heap.size) (bl_size (w := (w3.drew.alloc (.cells #[.int .i64 0, .int .i64 0, .slice none 0 0, .slice none 0 0, .slice none 0 0, .slice none 0 0, .slice none 0 0] 69))) (by (repeat (first | with_reducible exact Below.refl _ _ | with_reducible apply Below.drew | with_reducible apply bl_alloc | with_reducible apply bl_set | (with_reducible refine bl_tr ?_ hS) | (with_reducible refine bl_tr ?_ hT))); done))); have hom2 := ownT_weak (base' := w3.heap.size + 1) hom (Nat.le_trans (by simp : w3.heap.size + 1 ≤ (w3.drew.alloc (.cells #[.int .i64 0, .int .i64 0, .slice none 0 0, .slice none 0 0, .slice none 0 0, .slice none 0 0, .slice none 0 0] 69)).heap.size) (bl_size (w := (w3.drew.alloc (.cells #[.int .i64 0, .int .i64 0, .slice none 0 0, .slice none 0 0, .slice none 0 0, .slice none 0 0, .slice none 0 0] 69))) (by (repeat (first | with_reducible exact Below.refl _ _ | with_reducible apply Below.drew | with_reducible apply bl_alloc | with_reducible apply bl_set | (with_reducible refine bl_tr ?_ hS) | (with_reducible refine bl_tr ?_ hT))); done))); clear hol hom; have hol := hol2; have hom := hom2; clear hol2 hom2; have hA2 := auR_weak (base' := w3.heap.size + 1) (auR_after hA (show Below wT.heap.size wT wS from (by (repeat (first | with_reducible exact Below.refl _ _ | with_reducible apply Below.drew | with_reducible apply bl_alloc | with_reducible apply bl_set | (with_reducible refine bl_tr ?_ hS) | (with_reducible refine bl_tr ?_ hT))); done))) (Nat.le_trans (by simp : w3.heap.size + 1 ≤ (w3.drew.alloc (.cells #[.int .i64 0, .int .i64 0, .slice none 0 0, .slice none 0 0, .slice none 0 0, .slice none 0 0, .slice none 0 0] 69)).heap.size) (bl_size (w := (w3.drew.alloc (.cells #[.int .i64 0, .int .i64 0, .slice none 0 0, .slice none 0 0, .slice none 0 0, .slice none 0 0, .slice none 0 0] 69))) (by (repeat (first | with_reducible exact Below.refl _ _ | with_reducible apply Below.drew | with_reducible apply bl_alloc | with_reducible apply bl_set | (with_reducible refine bl_tr ?_ hS) | (with_reducible refine bl_tr ?_ hT))); done))); clear hLB; obtain ⟨bb, hbb⟩ : ∃ b, b = w3.heap.size := ⟨_, rfl⟩) | (go_at_call 60; with_reducible refine (i_newRide _ _ (.slice ag l.length kg) (paA p) l _ HSM.out hn HSZ.out (inI_below (auR_inI hA) (by (repeat (first | with_reducible exact Below.refl _ _ | with_reducible apply Below.drew | with_reducible apply bl_alloc | with_reducible apply bl_set | (with_reducible refine bl_tr ?_ hS) | (with_reducible refine bl_tr ?_ hT))); done)) (inT_below (auR_inT hA) (by (repeat (first | with_reducible exact Below.refl _ _ | with_reducible apply Below.drew | with_reducible apply bl_alloc | with_reducible apply bl_set | (with_reducible refine bl_tr ?_ hS) | (with_reducible refine bl_tr ?_ hT))); done)) (inRu_below HG3.out (by (repeat (first | with_reducible exact Below.refl _ _ | with_reducible apply Below.drew | with_reducible apply bl_alloc | with_reducible apply bl_set | (with_reducible refine bl_tr ?_ hS) | (with_reducible refine bl_tr ?_ hT))); done)) HOK2.out).mono ?_; rintro e wS ⟨vl, vm, rfl, hol, hom, hS⟩; obtain ⟨al, kl, rfl, -, -⟩ := owns_sl3 hol; obtain ⟨am, km, rfl⟩ := inT_sl (ownT_in hom); obtain ⟨bb, hbb⟩ : ∃ b, b = wS.heap.size := ⟨_, rfl⟩))
    · have hol := own_len hol (gLn_len3 HOK.out).symm
      have hle : w3.heap.size ≤ wT.heap.size := bl_size (by (repeat (first | with_reducible exact Below.refl _ _ | with_reducible apply Below.drew | with_reducible apply bl_alloc | with_reducible apply bl_set | (with_reducible refine bl_tr ?_ hS) | (with_reducible refine bl_tr ?_ hT))); done)
      have hsk : skO w3.heap.size wS (.slice a1 (paA p).fi.length k1) (.slice a2 (paA p).nx.length k2) (.slice al (gLn l).length kl) (.slice am (gSm (paA p).nx l).length km) p l := ⟨(auR_weak (auR_after hA (show Below wT.heap.size wT wS from (by (repeat (first | with_reducible exact Below.refl _ _ | with_reducible apply Below.drew | with_reducible apply bl_alloc | with_reducible apply bl_set | (with_reducible refine bl_tr ?_ hS) | (with_reducible refine bl_tr ?_ hT))); done))) (by first | exact Nat.le_refl _ | (simp; done) | (simp; omega))).1, rows_ownT (auR_weak (auR_after hA (show Below wT.heap.size wT wS from (by (repeat (first | with_reducible exact Below.refl _ _ | with_reducible apply Below.drew | with_reducible apply bl_alloc | with_reducible apply bl_set | (with_reducible refine bl_tr ?_ hS) | (with_reducible refine bl_tr ?_ hT))); done))) (by first | exact Nat.le_refl _ | (simp; done) | (simp; omega))).2.1, owns_weak hol (by first | exact hle | (simp; exact hle)), ownT_weak hom (by first | exact hle | (simp; exact hle))⟩
      have hbx := ride_box wS (.int .i64 (paA p).st) (.int .i64 (paA p).sa) (.slice a1 (paA p).fi.length k1) (.slice a2 (paA p).nx.length k2) (.slice ag l.length kg) (.slice al (gLn l).length kl) (.slice am (gSm (paA p).nx l).length km)
      have hF : Below w3.heap.size w3 (wS.alloc (.cells #[.int .i64 (paA p).st, .int .i64 (paA p).sa, .slice a1 (paA p).fi.length k1, .slice a2 (paA p).nx.length k2, .slice ag l.length kg, .slice al (gLn l).length kl, .slice am (gSm (paA p).nx l).length km] 69)) ∧ rd7 wS.heap.size (.int .i64 (paA p).st) (.int .i64 (paA p).sa) (.slice a1 (paA p).fi.length k1) (.slice a2 (paA p).nx.length k2) (.slice ag l.length kg) (.slice al (gLn l).length kl) (.slice am (gSm (paA p).nx l).length km) (wS.alloc (.cells #[.int .i64 (paA p).st, .int .i64 (paA p).sa, .slice a1 (paA p).fi.length k1, .slice a2 (paA p).nx.length k2, .slice ag l.length kg, .slice al (gLn l).length kl, .slice am (gSm (paA p).nx l).length km] 69)) ∧ skO w3.heap.size (wS.alloc (.cells #[.int .i64 (paA p).st, .int .i64 (paA p).sa, .slice a1 (paA p).fi.length k1, .slice a2 (paA p).nx.length k2, .slice ag l.length kg, .slice al (gLn l).length kl, .slice am (gSm (paA p).nx l).length km] 69)) (.slice a1 (paA p).fi.length k1) (.slice a2 (paA p).nx.length k2) (.slice al (gLn l).length kl) (.slice am (gSm (paA p).nx l).length km) p l := ⟨(by (repeat (first | with_reducible exact Below.refl _ _ | with_reducible apply Below.drew | with_reducible apply bl_alloc | with_reducible apply bl_set | (with_reducible refine bl_tr ?_ hS) | (with_reducible refine bl_tr ?_ hT))); done), hbx.1, skO_after hsk hbx.2⟩
      rw [← hbb] at hF ⊢
      refine gen_then (fun wz => Below w3.heap.size w3 wz ∧ rd7 bb (.int .i64 (paA p).st) (.int .i64 (paA p).sa) (.slice a1 (paA p).fi.length k1) (.slice a2 (paA p).nx.length k2) (.slice ag l.length kg) (.slice al (gLn l).length kl) (.slice am (gSm (paA p).nx l).length km) wz ∧ skO w3.heap.size wz (.slice a1 (paA p).fi.length k1) (.slice a2 (paA p).nx.length k2) (.slice al (gLn l).length kl) (.slice am (gSm (paA p).nx l).length km) p l) hF ?_
      intro wz hF
      exact REST.out bb wz a1 k1 a2 k2 al kl am km hF
    · have hol := own_len hol (gLn_len3 HOK.out).symm
      have hle : w3.heap.size ≤ wT.heap.size := bl_size (by (repeat (first | with_reducible exact Below.refl _ _ | with_reducible apply Below.drew | with_reducible apply bl_alloc | with_reducible apply bl_set | (with_reducible refine bl_tr ?_ hS) | (with_reducible refine bl_tr ?_ hT))); done)
      have hBw := below7 (v0 := .int .i64 (paA p).st) (v1 := .int .i64 (paA p).sa) (v2 := .slice a1 (paA p).fi.length k1) (v3 := .slice a2 (paA p).nx.length k2) (v4 := .slice ag l.length kg) (v5 := .slice al (gLn l).length kl) (v6 := .slice am (gSm (paA p).nx l).length km) (show Below w3.heap.size w3 wS from (by (repeat (first | with_reducible exact Below.refl _ _ | with_reducible apply Below.drew | with_reducible apply bl_alloc | with_reducible apply bl_set | (with_reducible refine bl_tr ?_ hS) | (with_reducible refine bl_tr ?_ hT))); done)) (show w3.heap.size ≤ wT.heap.size from hle)
      have hBt := below7 (v0 := .int .i64 (paA p).st) (v1 := .int .i64 (paA p).sa) (v2 := .slice a1 (paA p).fi.length k1) (v3 := .slice a2 (paA p).nx.length k2) (v4 := .slice ag l.length kg) (v5 := .slice al (gLn l).length kl) (v6 := .slice am (gSm (paA p).nx l).length km) (show Below wT.heap.size wT wS from (by (repeat (first | with_reducible exact Below.refl _ _ | with_reducible apply Below.drew | with_reducible apply bl_alloc | with_reducible apply bl_set | (with_reducible refine bl_tr ?_ hS) | (with_reducible refine bl_tr ?_ hT))); done)) (Nat.le_refl _)
      have hA2 := auR_weak (base' := w3.heap.size) (auR_after hA hBt) (by first | exact Nat.le_refl _ | (simp; done) | (simp; omega))
      have hF : Below w3.heap.size w3 (set7 wS wT.heap.size (.int .i64 (paA p).st) (.int .i64 (paA p).sa) (.slice a1 (paA p).fi.length k1) (.slice a2 (paA p).nx.length k2) (.slice ag l.length kg) (.slice al (gLn l).length kl) (.slice am (gSm (paA p).nx l).length km)) ∧ rd7 wT.heap.size (.int .i64 (paA p).st) (.int .i64 (paA p).sa) (.slice a1 (paA p).fi.length k1) (.slice a2 (paA p).nx.length k2) (.slice ag l.length kg) (.slice al (gLn l).length kl) (.slice am (gSm (paA p).nx l).length km) (set7 wS wT.heap.size (.int .i64 (paA p).st) (.int .i64 (paA p).sa) (.slice a1 (paA p).fi.length k1) (.slice a2 (paA p).nx.length k2) (.slice ag l.length kg) (.slice al (gLn l).length kl) (.slice am (gSm (paA p).nx l).length km)) ∧ skO w3.heap.size (set7 wS wT.heap.size (.int .i64 (paA p).st) (.int .i64 (paA p).sa) (.slice a1 (paA p).fi.length k1) (.slice a2 (paA p).nx.length k2) (.slice ag l.length kg) (.slice al (gLn l).length kl) (.slice am (gSm (paA p).nx l).length km)) (.slice a1 (paA p).fi.length k1) (.slice a2 (paA p).nx.length k2) (.slice al (gLn l).length kl) (.slice am (gSm (paA p).nx l).length km) p l := ⟨hBw, put7 (.int .i64 (paA p).st) (.int .i64 (paA p).sa) (.slice a1 (paA p).fi.length k1) (.slice a2 (paA p).nx.length k2) (.slice ag l.length kg) (.slice al (gLn l).length kl) (.slice am (gSm (paA p).nx l).length km) y0 y1 y2 y3 y4 y5 y6, hA2.1, rows_ownT hA2.2.1, owns_weak (own7 hol (Nat.lt_succ_self _)) (by omega), ownT_weak (ownT7 hom (Nat.lt_succ_self _)) (by omega)⟩
      unfold set7 at hF
      rw [← hbb] at hF ⊢
      refine gen_then (fun wz => Below w3.heap.size w3 wz ∧ rd7 bb (.int .i64 (paA p).st) (.int .i64 (paA p).sa) (.slice a1 (paA p).fi.length k1) (.slice a2 (paA p).nx.length k2) (.slice ag l.length kg) (.slice al (gLn l).length kl) (.slice am (gSm (paA p).nx l).length km) wz ∧ skO w3.heap.size wz (.slice a1 (paA p).fi.length k1) (.slice a2 (paA p).nx.length k2) (.slice al (gLn l).length kl) (.slice am (gSm (paA p).nx l).length km) p l) hF ?_
      intro wz hF
      exact REST.out bb wz a1 k1 a2 k2 al kl am km hF
    · have hol := own_len hol (gLn_len3 HOK.out).symm
      have hBw := below7 (v0 := .int .i64 (paA p).st) (v1 := .int .i64 (paA p).sa) (v2 := .slice a1 (paA p).fi.length k1) (v3 := .slice a2 (paA p).nx.length k2) (v4 := .slice ag l.length kg) (v5 := .slice al (gLn l).length kl) (v6 := .slice am (gSm (paA p).nx l).length km) (show Below w3.heap.size w3 wS from (by (repeat (first | with_reducible exact Below.refl _ _ | with_reducible apply Below.drew | with_reducible apply bl_alloc | with_reducible apply bl_set | (with_reducible refine bl_tr ?_ hS) | (with_reducible refine bl_tr ?_ hT))); done)) (Nat.le_refl _)
      have hA3 := auR_weak (base' := w3.heap.size) (auR7 (b := w3.heap.size) (v0 := .int .i64 (paA p).st) (v1 := .int .i64 (paA p).sa) (v2 := .slice a1 (paA p).fi.length k1) (v3 := .slice a2 (paA p).nx.length k2) (v4 := .slice ag l.length kg) (v5 := .slice al (gLn l).length kl) (v6 := .slice am (gSm (paA p).nx l).length km) hA2 (Nat.lt_succ_self _)) (Nat.le_succ _)
      have hF : Below w3.heap.size w3 (set7 wS w3.heap.size (.int .i64 (paA p).st) (.int .i64 (paA p).sa) (.slice a1 (paA p).fi.length k1) (.slice a2 (paA p).nx.length k2) (.slice ag l.length kg) (.slice al (gLn l).length kl) (.slice am (gSm (paA p).nx l).length km)) ∧ rd7 w3.heap.size (.int .i64 (paA p).st) (.int .i64 (paA p).sa) (.slice a1 (paA p).fi.length k1) (.slice a2 (paA p).nx.length k2) (.slice ag l.length kg) (.slice al (gLn l).length kl) (.slice am (gSm (paA p).nx l).length km) (set7 wS w3.heap.size (.int .i64 (paA p).st) (.int .i64 (paA p).sa) (.slice a1 (paA p).fi.length k1) (.slice a2 (paA p).nx.length k2) (.slice ag l.length kg) (.slice al (gLn l).length kl) (.slice am (gSm (paA p).nx l).length km)) ∧ skO w3.heap.size (set7 wS w3.heap.size (.int .i64 (paA p).st) (.int .i64 (paA p).sa) (.slice a1 (paA p).fi.length k1) (.slice a2 (paA p).nx.length k2) (.slice ag l.length kg) (.slice al (gLn l).length kl) (.slice am (gSm (paA p).nx l).length km)) (.slice a1 (paA p).fi.length k1) (.slice a2 (paA p).nx.length k2) (.slice al (gLn l).length kl) (.slice am (gSm (paA p).nx l).length km) p l := ⟨hBw, put7 (.int .i64 (paA p).st) (.int .i64 (paA p).sa) (.slice a1 (paA p).fi.length k1) (.slice a2 (paA p).nx.length k2) (.slice ag l.length kg) (.slice al (gLn l).length kl) (.slice am (gSm (paA p).nx l).length km) y0 y1 y2 y3 y4 y5 y6, hA3.1, rows_ownT hA3.2.1, owns_weak (own7 hol (Nat.lt_succ_self _)) (Nat.le_succ _), ownT_weak (ownT7 hom (Nat.lt_succ_self _)) (Nat.le_succ _)⟩
      unfold set7 at hF
      rw [← hbb] at hF ⊢
      refine gen_then (fun wz => Below w3.heap.size w3 wz ∧ rd7 bb (.int .i64 (paA p).st) (.int .i64 (paA p).sa) (.slice a1 (paA p).fi.length k1) (.slice a2 (paA p).nx.length k2) (.slice ag l.length kg) (.slice al (gLn l).length kl) (.slice am (gSm (paA p).nx l).length km) wz ∧ skO w3.heap.size wz (.slice a1 (paA p).fi.length k1) (.slice a2 (paA p).nx.length k2) (.slice al (gLn l).length kl) (.slice am (gSm (paA p).nx l).length km) p l) ⟨below_eq hbb hF.1, hF.2.1, hbb ▸ hF.2.2⟩ ?_
      intro wz hF
      exact REST.out bb wz a1 k1 a2 k2 al kl am km hF
  · intro bb wz a1 k1 a2 k2 al kl am km hF
    obtain ⟨hbw, ⟨c0', c1', c2', c3', c4', c5', c6'⟩, hrd⟩ := hF
    obtain ⟨z0, z1, z2, z3, z4, z5, z6⟩ := HZ.out
    have d0 := cell_later hbw z0
    have d1 := cell_later hbw z1
    have d2 := cell_later hbw z2
    have d3 := cell_later hbw z3
    have d4 := cell_later hbw z4
    have d5 := cell_later hbw z5
    have d6 := cell_later hbw z6
    have fz : ∀ j, wz.frozen? ⟨w.heap.size + 1, j, none⟩ = false := fun j => by rw [hbw.frozen (p := ⟨w.heap.size + 1, j, none⟩) hlt]; exact HFZ.out j
    have HBB := Lib.hid (HB3.out.trans (hbw.mono HB3.out.size))
    have HB4 := Lib.hid (below7 (b := w.heap.size + 1) (v0 := .int .i64 (paA p).st) (v1 := .int .i64 (paA p).sa) (v2 := .slice a1 (paA p).fi.length k1) (v3 := .slice a2 (paA p).nx.length k2) (v4 := .slice ag l.length kg) (v5 := .slice al (gLn l).length kl) (v6 := .slice am (gSm (paA p).nx l).length km) HBB.out (Nat.le_succ _))
    have HRD := Lib.hid (skO_rd (skO7 (b := w.heap.size + 1) (v0 := .int .i64 (paA p).st) (v1 := .int .i64 (paA p).sa) (v2 := .slice a1 (paA p).fi.length k1) (v3 := .slice a2 (paA p).nx.length k2) (v4 := .slice ag l.length kg) (v5 := .slice al (gLn l).length kl) (v6 := .slice am (gSm (paA p).nx l).length km) hrd hlt) (inRu_below HG0.out HB4.out))
    have hP := put7 (w := wz) (b := w.heap.size + 1) (.int .i64 (paA p).st) (.int .i64 (paA p).sa) (.slice a1 (paA p).fi.length k1) (.slice a2 (paA p).nx.length k2) (.slice ag l.length kg) (.slice al (gLn l).length kl) (.slice am (gSm (paA p).nx l).length km) d0 d1 d2 d3 d4 d5 d6
    clear hbw hrd z0 z1 z2 z3 z4 z5 z6 HZ HFZ HSS
    go_wp2
    refine (fun {W W' : World} (e : W' = W) (k : bodyPost _ _ _ _ _ W) => (e ▸ k : bodyPost _ _ _ _ _ W')) (W := set7 wz (w.heap.size + 1) (.int .i64 (paA p).st) (.int .i64 (paA p).sa) (.slice a1 (paA p).fi.length k1) (.slice a2 (paA p).nx.length k2) (.slice ag l.length kg) (.slice al (gLn l).length kl) (.slice am (gSm (paA p).nx l).length km)) rfl ?_
    generalize set7 wz (w.heap.size + 1) (.int .i64 (paA p).st) (.int .i64 (paA p).sa) (.slice a1 (paA p).fi.length k1) (.slice a2 (paA p).nx.length k2) (.slice ag l.length kg) (.slice al (gLn l).length kl) (.slice am (gSm (paA p).nx l).length km) = w5 at *
    obtain ⟨t0, t1, t2, t3, t4, t5, t6⟩ := hP
    refine bodyPost_ret (v := .tuple #[.agg #[.int .i64 (paA p).st, .int .i64 (paA p).sa, .slice a1 (paA p).fi.length k1, .slice a2 (paA p).nx.length k2, .slice ag l.length kg, .slice al (gLn l).length kl, .slice am (gSm (paA p).nx l).length km], .int .i64 0]) (by simp [results, Try.results40, go_sem, t0, t1, t2, t3, t4, t5, t6]) rfl ⟨_, _, _, _, rfl, HRD.out, HB4.out⟩
theorem i_seek_f (vg : Value) (p : ByteArray) (l : List Ru) (w : World) (hz : p.size ≤ 1048576) (hn : l.length ≤ 1048576) (hsz : ∀ r ∈ l, r.1.size ≤ 1048576) (hg : InRu w vg l) (h0 : skC p l ≠ 0) :
    Calls Try.prog 40 #[.agg #[vg], .string p] w fun e w' => e = .returned (.tuple #[.agg #[.int .i64 0, .int .i64 0, .slice none 0 0, .slice none 0 0, .slice none 0 0, .slice none 0 0, .slice none 0 0], .int .i64 (skC p l)]) ∧ Below w.heap.size w w' := by
  obtain ⟨ag, kg, rfl⟩ := inRu_sl hg
  have hbx := ((Below.refl w.heap.size w).alloc (Nat.le_refl _) (.cells #[.slice ag l.length kg] 26)).alloc (by simp) (.cells #[.int .i64 0, .int .i64 0, .slice none 0 0, .slice none 0 0, .slice none 0 0, .slice none 0 0, .slice none 0 0] 69)
  have HBX : Hid (∀ w', Below ((w.alloc (.cells #[.slice ag l.length kg] 26)).alloc (.cells #[.int .i64 0, .int .i64 0, .slice none 0 0, .slice none 0 0, .slice none 0 0, .slice none 0 0, .slice none 0 0] 69)).heap.size ((w.alloc (.cells #[.slice ag l.length kg] 26)).alloc (.cells #[.int .i64 0, .int .i64 0, .slice none 0 0, .slice none 0 0, .slice none 0 0, .slice none 0 0, .slice none 0 0] 69)) w' → Below w.heap.size w w') := fun w' h => below_box (below_box h)
  have HIG := Lib.hid (inRu_below hg hbx)
  have HG := Lib.hid (i_ValidGrammar (.slice ag l.length kg) l _ hn hsz HIG.out)
  have HV := Lib.hid (fun w => i_ValidWord p w (by unfold maxLen; omega))
  clear hg hsz hbx
  cases hok : gOk l
  · have e : skC p l = 1 := by simp [skC, hok]
    rw [e]
    rw [hok] at HG
    clear e h0 hok HV HIG
    go_enter Try.func40, Try.ntmps40
    go_wp2_with fail
    refine HG.out.mono ?_
    rintro e w2 ⟨rfl, hb2⟩
    have z0 : w2.cell? ⟨w.heap.size + 1, 0, none⟩ = some (.int .i64 0) := by rw [hb2.cell (by first | (simp; done) | (simp; omega))]; simp [go_sem]
    have z1 : w2.cell? ⟨w.heap.size + 1, 1, none⟩ = some (.int .i64 0) := by rw [hb2.cell (by first | (simp; done) | (simp; omega))]; simp [go_sem]
    have z2 : w2.cell? ⟨w.heap.size + 1, 2, none⟩ = some (.slice none 0 0) := by rw [hb2.cell (by first | (simp; done) | (simp; omega))]; simp [go_sem]
    have z3 : w2.cell? ⟨w.heap.size + 1, 3, none⟩ = some (.slice none 0 0) := by rw [hb2.cell (by first | (simp; done) | (simp; omega))]; simp [go_sem]
    have z4 : w2.cell? ⟨w.heap.size + 1, 4, none⟩ = some (.slice none 0 0) := by rw [hb2.cell (by first | (simp; done) | (simp; omega))]; simp [go_sem]
    have z5 : w2.cell? ⟨w.heap.size + 1, 5, none⟩ = some (.slice none 0 0) := by rw [hb2.cell (by first | (simp; done) | (simp; omega))]; simp [go_sem]
    have z6 : w2.cell? ⟨w.heap.size + 1, 6, none⟩ = some (.slice none 0 0) := by rw [hb2.cell (by first | (simp; done) | (simp; omega))]; simp [go_sem]
    have fz : ∀ j, w2.frozen? ⟨w.heap.size + 1, j, none⟩ = false := fun j => by rw [hb2.frozen (by simp)]; simp [go_sem]
    go_wp2
    have HB4 := Lib.hid (below7 (b := w.heap.size + 1) (v0 := .int .i64 0) (v1 := .int .i64 0) (v2 := .slice none 0 0) (v3 := .slice none 0 0) (v4 := .slice none 0 0) (v5 := .slice none 0 0) (v6 := .slice none 0 0) (HBX.out _ hb2) (Nat.le_succ _))
    have hP := put7 (w := w2) (b := w.heap.size + 1) (.int .i64 0) (.int .i64 0) (.slice none 0 0) (.slice none 0 0) (.slice none 0 0) (.slice none 0 0) (.slice none 0 0) z0 z1 z2 z3 z4 z5 z6
    clear hb2 z0 z1 z2 z3 z4 z5 z6 fz
    refine (fun {W W' : World} (e : W' = W) (k : bodyPost _ _ _ _ _ W) => (e ▸ k : bodyPost _ _ _ _ _ W')) (W := set7 w2 (w.heap.size + 1) (.int .i64 0) (.int .i64 0) (.slice none 0 0) (.slice none 0 0) (.slice none 0 0) (.slice none 0 0) (.slice none 0 0)) rfl ?_
    generalize set7 w2 (w.heap.size + 1) (.int .i64 0) (.int .i64 0) (.slice none 0 0) (.slice none 0 0) (.slice none 0 0) (.slice none 0 0) (.slice none 0 0) = w5 at *
    obtain ⟨t0, t1, t2, t3, t4, t5, t6⟩ := hP
    refine bodyPost_ret (v := .tuple #[.agg #[.int .i64 0, .int .i64 0, .slice none 0 0, .slice none 0 0, .slice none 0 0, .slice none 0 0, .slice none 0 0], .int .i64 1]) (by simp [results, Try.results40, go_sem, t0, t1, t2, t3, t4, t5, t6]) rfl ⟨rfl, HB4.out⟩
  · have esk : skC p l = paC p := by simp [skC, hok]
    rw [esk] at h0 ⊢
    rw [hok] at HG
    clear hok esk
    cases hv : validB p
    · have e : paC p = 1 := by simp [paC, hv]
      rw [e]
      rw [hv] at HV
      clear e hv h0
      go_enter Try.func40, Try.ntmps40
      go_wp2_with fail
      refine HG.out.mono ?_
      rintro e w2 ⟨rfl, hb2⟩
      go_wp2_with fail
      refine (HV.out _).mono ?_
      rintro e w2' ⟨rfl, rfl⟩
      have z0 : w2.cell? ⟨w.heap.size + 1, 0, none⟩ = some (.int .i64 0) := by rw [hb2.cell (by first | (simp; done) | (simp; omega))]; simp [go_sem]
      have z1 : w2.cell? ⟨w.heap.size + 1, 1, none⟩ = some (.int .i64 0) := by rw [hb2.cell (by first | (simp; done) | (simp; omega))]; simp [go_sem]
      have z2 : w2.cell? ⟨w.heap.size + 1, 2, none⟩ = some (.slice none 0 0) := by rw [hb2.cell (by first | (simp; done) | (simp; omega))]; simp [go_sem]
      have z3 : w2.cell? ⟨w.heap.size + 1, 3, none⟩ = some (.slice none 0 0) := by rw [hb2.cell (by first | (simp; done) | (simp; omega))]; simp [go_sem]
      have z4 : w2.cell? ⟨w.heap.size + 1, 4, none⟩ = some (.slice none 0 0) := by rw [hb2.cell (by first | (simp; done) | (simp; omega))]; simp [go_sem]
      have z5 : w2.cell? ⟨w.heap.size + 1, 5, none⟩ = some (.slice none 0 0) := by rw [hb2.cell (by first | (simp; done) | (simp; omega))]; simp [go_sem]
      have z6 : w2.cell? ⟨w.heap.size + 1, 6, none⟩ = some (.slice none 0 0) := by rw [hb2.cell (by first | (simp; done) | (simp; omega))]; simp [go_sem]
      have fz : ∀ j, w2.frozen? ⟨w.heap.size + 1, j, none⟩ = false := fun j => by rw [hb2.frozen (by simp)]; simp [go_sem]
      go_wp2
      have HB4 := Lib.hid (below7 (b := w.heap.size + 1) (v0 := .int .i64 0) (v1 := .int .i64 0) (v2 := .slice none 0 0) (v3 := .slice none 0 0) (v4 := .slice none 0 0) (v5 := .slice none 0 0) (v6 := .slice none 0 0) (HBX.out _ hb2) (Nat.le_succ _))
      have hP := put7 (w := w2) (b := w.heap.size + 1) (.int .i64 0) (.int .i64 0) (.slice none 0 0) (.slice none 0 0) (.slice none 0 0) (.slice none 0 0) (.slice none 0 0) z0 z1 z2 z3 z4 z5 z6
      clear hb2 z0 z1 z2 z3 z4 z5 z6 fz
      refine (fun {W W' : World} (e : W' = W) (k : bodyPost _ _ _ _ _ W) => (e ▸ k : bodyPost _ _ _ _ _ W')) (W := set7 w2 (w.heap.size + 1) (.int .i64 0) (.int .i64 0) (.slice none 0 0) (.slice none 0 0) (.slice none 0 0) (.slice none 0 0) (.slice none 0 0)) rfl ?_
      generalize set7 w2 (w.heap.size + 1) (.int .i64 0) (.int .i64 0) (.slice none 0 0) (.slice none 0 0) (.slice none 0 0) (.slice none 0 0) (.slice none 0 0) = w5 at *
      obtain ⟨t0, t1, t2, t3, t4, t5, t6⟩ := hP
      refine bodyPost_ret (v := .tuple #[.agg #[.int .i64 0, .int .i64 0, .slice none 0 0, .slice none 0 0, .slice none 0 0, .slice none 0 0, .slice none 0 0], .int .i64 1]) (by simp [results, Try.results40, go_sem, t0, t1, t2, t3, t4, t5, t6]) rfl ⟨rfl, HB4.out⟩
    · have HPC := Lib.hid (fun w => i_patternCode p w hv)
      rw [hv] at HV
      have hpb : (paC p == 0) = false := by rw [beq_eq_false_iff_ne]; exact h0
      have HPB := Lib.hid hpb
      clear hv hpb
      generalize paC p = c at *
      go_enter Try.func40, Try.ntmps40
      go_wp2_with fail
      refine HG.out.mono ?_
      rintro e w2 ⟨rfl, hb2⟩
      go_wp2_with fail
      refine (HV.out _).mono ?_
      rintro e w2' ⟨rfl, rfl⟩
      go_wp2_with fail
      refine (HPC.out _).mono ?_
      rintro e w2' ⟨rfl, rfl⟩
      have z0 : w2.cell? ⟨w.heap.size + 1, 0, none⟩ = some (.int .i64 0) := by rw [hb2.cell (by first | (simp; done) | (simp; omega))]; simp [go_sem]
      have z1 : w2.cell? ⟨w.heap.size + 1, 1, none⟩ = some (.int .i64 0) := by rw [hb2.cell (by first | (simp; done) | (simp; omega))]; simp [go_sem]
      have z2 : w2.cell? ⟨w.heap.size + 1, 2, none⟩ = some (.slice none 0 0) := by rw [hb2.cell (by first | (simp; done) | (simp; omega))]; simp [go_sem]
      have z3 : w2.cell? ⟨w.heap.size + 1, 3, none⟩ = some (.slice none 0 0) := by rw [hb2.cell (by first | (simp; done) | (simp; omega))]; simp [go_sem]
      have z4 : w2.cell? ⟨w.heap.size + 1, 4, none⟩ = some (.slice none 0 0) := by rw [hb2.cell (by first | (simp; done) | (simp; omega))]; simp [go_sem]
      have z5 : w2.cell? ⟨w.heap.size + 1, 5, none⟩ = some (.slice none 0 0) := by rw [hb2.cell (by first | (simp; done) | (simp; omega))]; simp [go_sem]
      have z6 : w2.cell? ⟨w.heap.size + 1, 6, none⟩ = some (.slice none 0 0) := by rw [hb2.cell (by first | (simp; done) | (simp; omega))]; simp [go_sem]
      have fz : ∀ j, w2.frozen? ⟨w.heap.size + 1, j, none⟩ = false := fun j => by rw [hb2.frozen (by simp)]; simp [go_sem]
      have hpb := HPB.out
      go_wp2
      have HB4 := Lib.hid (below7 (b := w.heap.size + 1) (v0 := .int .i64 0) (v1 := .int .i64 0) (v2 := .slice none 0 0) (v3 := .slice none 0 0) (v4 := .slice none 0 0) (v5 := .slice none 0 0) (v6 := .slice none 0 0) (HBX.out _ hb2) (Nat.le_succ _))
      have hP := put7 (w := w2) (b := w.heap.size + 1) (.int .i64 0) (.int .i64 0) (.slice none 0 0) (.slice none 0 0) (.slice none 0 0) (.slice none 0 0) (.slice none 0 0) z0 z1 z2 z3 z4 z5 z6
      clear hb2 z0 z1 z2 z3 z4 z5 z6 fz
      refine (fun {W W' : World} (e : W' = W) (k : bodyPost _ _ _ _ _ W) => (e ▸ k : bodyPost _ _ _ _ _ W')) (W := set7 w2 (w.heap.size + 1) (.int .i64 0) (.int .i64 0) (.slice none 0 0) (.slice none 0 0) (.slice none 0 0) (.slice none 0 0) (.slice none 0 0)) rfl ?_
      generalize set7 w2 (w.heap.size + 1) (.int .i64 0) (.int .i64 0) (.slice none 0 0) (.slice none 0 0) (.slice none 0 0) (.slice none 0 0) (.slice none 0 0) = w5 at *
      obtain ⟨t0, t1, t2, t3, t4, t5, t6⟩ := hP
      refine bodyPost_ret (v := .tuple #[.agg #[.int .i64 0, .int .i64 0, .slice none 0 0, .slice none 0 0, .slice none 0 0, .slice none 0 0, .slice none 0 0], .int .i64 c]) (by simp [results, Try.results40, go_sem, t0, t1, t2, t3, t4, t5, t6]) rfl ⟨rfl, HB4.out⟩
end Go.Proofs.Ytimfbnjgodbgoaa

/- CountPattern, both functions. -/
namespace Go.Proofs.Ytimfbnjgodbgoaa
open Go.ChangeShapes Go.WideShapes Go.RowKit
set_option linter.unusedVariables false
set_option linter.unusedSimpArgs false
set_option maxHeartbeats 1000000
set_option maxRecDepth 100000
theorem skC_p20 {p : ByteArray} {l : List Ru} (h : skC p l = 0) : p.size ≤ 20 := (paC_ok (skC_ok h).2).2.2
/-- how often a pattern ends within the first letters, as the program counts -/
def enF (p : ByteArray) (l : List Ru) (j : Int) : Int := tmS (viV (paA p) l j) (paA p).fi (paA p).fi.length
theorem enF_eq {p : ByteArray} {l : List Ru} (hp : p.size ≤ 20) (hok : gOk l = true) (j : Int) : enF p l j = (viV (paA p) l j).getD p.size 0 := by
  have h : enF p l j = tmS (viV (paA p) l j) [(p.size : Int)] 1 := rfl
  rw [h, tm_one (viV_bd (paA_ok hp) hok j (by rw [paA_nx]; omega))]
def cpV (p : ByteArray) (l : List Ru) : Int := if skC p l = 0 then (viV (paA p) l (lastI (gLn l))).getD p.size 0 else 0
theorem i_CountPattern (vg : Value) (l : List Ru) (p : ByteArray) (w : World) (hn : l.length ≤ 1048576) (hsz : ∀ r ∈ l, r.1.size ≤ 1048576) (hg : InRu w vg l) (hz : p.size ≤ 1048576) :
    Calls Try.prog 17 #[.agg #[vg], .string p] w fun e w' => e = .returned (.tuple #[.int .i64 (cpV p l), .int .i64 (skC p l)]) ∧ Below w.heap.size w w' := by
  obtain ⟨ag, kg, rfl⟩ := inRu_sl hg
  have hbx := (Below.refl w.heap.size w).alloc (Nat.le_refl _) (.cells #[.slice ag l.length kg] 26)
  have HBX : Hid (∀ w', Below (w.alloc (.cells #[.slice ag l.length kg] 26)).heap.size (w.alloc (.cells #[.slice ag l.length kg] 26)) w' → Below w.heap.size w w') := fun w' h => below_box h
  by_cases h0 : skC p l = 0
  · have e1 : cpV p l = enF p l (lastI (gLn l)) := by rw [cpV, if_pos h0, enF_eq (skC_p20 h0) (skC_ok h0).1]
    have HN := Lib.hid (i_seek (.slice ag l.length kg) p l _ hz hn hsz (inRu_below hg hbx) h0)
    have HOK := Lib.hid (skC_ok h0).1
    have HAO := Lib.hid (paA_ok (skC_p20 h0))
    have HEN : Hid (∀ j, tmS (viV (paA p) l j) (paA p).fi (paA p).fi.length = enF p l j) := fun j => rfl
    rw [e1, h0]
    clear hg hsz hbx h0 e1
    generalize paA p = a at *
    go_enter Try.func17, Try.ntmps17
    go_wp2_with fail
    refine (HN.out).mono ?_
    rintro e w2 ⟨u1, u2, vl, vm, rfl, hrd2, hb2⟩
    obtain ⟨a1, k1, rfl⟩ := inI_sl hrd2.fi
    obtain ⟨a2, k2, rfl⟩ := inT_sl hrd2.nx
    obtain ⟨B0, hlw⟩ := hrd2.ln
    obtain ⟨al, kl, rfl, -, -⟩ := owns_sl3 hlw
    obtain ⟨am, km, rfl⟩ := inT_sl hrd2.mp
    have HRD2 := Lib.hid hrd2
    have HB2 := Lib.hid (HBX.out _ hb2)
    have HB2' := Lib.hid hb2
    clear hb2 HN hrd2 hlw
    go_wp2
    have hbox := ride_box w2 (.int .i64 a.st) (.int .i64 a.sa) (.slice a1 a.fi.length k1) (.slice a2 a.nx.length k2) (.slice ag l.length kg) (.slice al l.length kl) (.slice am (gSm a.nx l).length km)
    refine gen_world2 (fun w3 => rd7 w2.heap.size (.int .i64 a.st) (.int .i64 a.sa) (.slice a1 a.fi.length k1) (.slice a2 a.nx.length k2) (.slice ag l.length kg) (.slice al l.length kl) (.slice am (gSm a.nx l).length km) w3 ∧ Below w2.heap.size w2 w3) hbox ?_
    clear hbox
    rintro w3 ⟨⟨c0, c1, c2, c3, c4, c5, c6⟩, hb3⟩
    have HRD3 := Lib.hid (inRd_below HRD2.out hb3)
    have HB3 := Lib.hid (HB2.out.trans (hb3.mono HB2.out.size))
    have HB3' := Lib.hid (HB2'.out.trans (hb3.mono HB2'.out.size))
    have HSS : Hid (∀ w', Below w3.heap.size w3 w' → (w'.cell? ⟨w2.heap.size, 0, none⟩ = some (.int .i64 a.st) ∧ w'.cell? ⟨w2.heap.size, 1, none⟩ = some (.int .i64 a.sa) ∧ w'.cell? ⟨w2.heap.size, 2, none⟩ = some (.slice a1 a.fi.length k1) ∧ w'.cell? ⟨w2.heap.size, 3, none⟩ = some (.slice a2 a.nx.length k2) ∧ w'.cell? ⟨w2.heap.size, 4, none⟩ = some (.slice ag l.length kg) ∧ w'.cell? ⟨w2.heap.size, 5, none⟩ = some (.slice al l.length kl) ∧ w'.cell? ⟨w2.heap.size, 6, none⟩ = some (.slice am (gSm a.nx l).length km))) := fun w' h => ⟨cell_later h c0, cell_later h c1, cell_later h c2, cell_later h c3, cell_later h c4, cell_later h c5, cell_later h c6⟩
    have hb3k := hb3
    clear hb3
    clear hb3k
    go_region_held3 (fun w' => w'.cell? ⟨w2.heap.size, 0, none⟩ = some (.int .i64 a.st) ∧ w'.cell? ⟨w2.heap.size, 1, none⟩ = some (.int .i64 a.sa) ∧ w'.cell? ⟨w2.heap.size, 2, none⟩ = some (.slice a1 a.fi.length k1) ∧ w'.cell? ⟨w2.heap.size, 3, none⟩ = some (.slice a2 a.nx.length k2) ∧ w'.cell? ⟨w2.heap.size, 4, none⟩ = some (.slice ag l.length kg) ∧ w'.cell? ⟨w2.heap.size, 5, none⟩ = some (.slice al l.length kl) ∧ w'.cell? ⟨w2.heap.size, 6, none⟩ = some (.slice am (gSm a.nx l).length km)) (exact HSS.out _ (by (repeat (first | exact Below.refl _ _ | apply Below.drew | (refine bl_tr ?_ hT2) | (refine bl_tr ?_ hT1))); done)) (first | (go_at_call 42; with_reducible refine (rd_length (inRd_below HRD3.out (by (repeat (first | exact Below.refl _ _ | apply Below.drew)); done)) HOK.out).mono ?_; rintro e wA ⟨rfl, hT1⟩) | (go_at_call 41; with_reducible refine (rd_ends (inRd_below HRD3.out (by (repeat (first | exact Below.refl _ _ | apply Below.drew | (refine bl_tr ?_ hT1))); done)) HOK.out HAO.out _).mono ?_; rintro e wB ⟨rfl, hT2⟩))
    have hbf : Below w3.heap.size w3 wB := by (repeat (first | exact Below.refl _ _ | apply Below.drew | (refine bl_tr ?_ hT2) | (refine bl_tr ?_ hT1))); done
    have HBF := Lib.hid (HB3.out.trans (hbf.mono HB3.out.size))
    rw [HEN.out]
    clear hT1 hT2 hbf c0 c1 c2 c3 c4 c5 c6
    go_wp2
    go_ret2
    exact ⟨rfl, HBF.out⟩
  · have e1 : cpV p l = 0 := by rw [cpV, if_neg h0]
    have HN := Lib.hid (i_seek_f (.slice ag l.length kg) p l _ hz hn hsz (inRu_below hg hbx) h0)
    have hcb : (skC p l == 0) = false := by rw [beq_eq_false_iff_ne]; exact h0
    have HCB := Lib.hid hcb
    rw [e1]
    clear e1 hg hsz hbx h0 hcb
    generalize skC p l = c at *
    go_enter Try.func17, Try.ntmps17
    go_wp2_with fail
    refine (HN.out).mono ?_
    rintro e w2 ⟨rfl, hb2⟩
    have BF := HBX.out _ hb2
    have hcb := HCB.out
    clear hb2 HN
    go_wp2
    go_ret2
    exact ⟨rfl, by first | exact BF.alloc BF.size _ | exact BF | exact ((BF.alloc BF.size _).setCell (by simp; exact BF.size) _)⟩
end Go.Proofs.Ytimfbnjgodbgoaa

/- PatternAt, both functions. -/
namespace Go.Proofs.Ytimfbnjgodbgoaa
open Go.ChangeShapes Go.WideShapes Go.RowKit
set_option linter.unusedVariables false
set_option linter.unusedSimpArgs false
set_option maxHeartbeats 1000000
set_option maxRecDepth 100000
/-- the least number, from j on, for which f holds -/
def lvS (f : Nat → Bool) : Nat → Nat → Nat
  | 0, j => j
  | n + 1, j => if f j = true then j else lvS f n (j + 1)
theorem lvS_eq {f : Nat → Bool} {r : Nat} (h1 : ∀ i, i < r → f i = false) (h2 : f r = true) : ∀ (n j : Nat), j ≤ r → r ≤ j + n → lvS f n j = r
  | 0, j, h3, h4 => by rw [lvS]; omega
  | n + 1, j, h3, h4 => by
    rw [lvS]
    by_cases he : j = r
    · rw [he, if_pos h2]
    · rw [if_neg (by rw [h1 j (by omega)]; simp)]
      exact lvS_eq h1 h2 n (j + 1) (by omega) (by omega)
def patR (p : ByteArray) (l : List Ru) (k : Int) : Int := (lvS (fun j => decide (k + 1 ≤ cwW (paA p).nx p.size 0 ((wd l).take j))) (wd l).length 0 : Nat)
theorem patR_eq {p : ByteArray} {l : List Ru} {k r : Int} (h : lvP (paA p).nx p.size 0 (wd l) (k + 1) r) : patR p l k = r := by
  obtain ⟨h1, h2, h3, h4⟩ := h
  have e : lvS (fun j => decide (k + 1 ≤ cwW (paA p).nx p.size 0 ((wd l).take j))) (wd l).length 0 = r.toNat := by
    refine lvS_eq (fun i hi => ?_) (decide_eq_true h3) _ _ (Nat.zero_le _) (by omega)
    have := h4 i (by omega)
    exact decide_eq_false (by omega)
  rw [patR, e]
  omega
theorem enF_cw {p : ByteArray} {l : List Ru} (hp : p.size ≤ 20) (hok : gOk l = true) (j : Int) : enF p l j = cwW (paA p).nx p.size 0 ((wd l).take j.toNat) := by
  rw [enF_eq hp hok, viV_law (paA_ok hp) hok (by rw [paA_nx]; omega)]
  rfl
theorem enF_N {p : ByteArray} {l : List Ru} (hp : p.size ≤ 20) (hok : gOk l = true) : enF p l (lastI (gLn l)) = cwW (paA p).nx p.size 0 (wd l) := by
  have := wd_len hok
  rw [enF_cw hp hok, show (lastI (gLn l)).toNat = (wd l).length by omega, List.take_length]
theorem enF_mono {p : ByteArray} {l : List Ru} (hp : p.size ≤ 20) (hok : gOk l = true) : ∀ i j, 0 ≤ i → i ≤ j → j ≤ lastI (gLn l) → enF p l i ≤ enF p l j := by
  intro i j h0 h1 h2
  rw [enF_cw hp hok, enF_cw hp hok]
  exact cwW_mono _ _ _ _ (by omega)
theorem enF_bd {p : ByteArray} {l : List Ru} (hp : p.size ≤ 20) (hok : gOk l = true) (j : Int) : 0 ≤ enF p l j ∧ enF p l j ≤ 1000000000000000 := by
  rw [enF_eq hp hok]
  exact viV_bd (paA_ok hp) hok j (by rw [paA_nx]; omega)
/-- the program's place is the least one -/
theorem pat_ans {p : ByteArray} {l : List Ru} (hp : p.size ≤ 20) (hok : gOk l = true) {k r : Int} (h : lsP (enF p l) (lastI (gLn l)) (k + 1) r) (hk : k < enF p l (lastI (gLn l))) : patR p l k = r ∧ 0 ≤ r ∧ r ≤ 1000000000000000 := by
  have h2 := lv_of_ls (wd_len hok) (fun j _ _ => enF_cw hp hok j) h (by omega)
  have := h2.1
  have := h2.2.1
  have := wd_len hok
  have := lastI_bd hok
  exact ⟨patR_eq h2, by omega, by omega⟩
def patV (p : ByteArray) (l : List Ru) (k : Int) : Int := if skC p l = 0 then (if k < 0 then 0 else (if enF p l (lastI (gLn l)) ≤ k then 0 else patR p l k - p.size)) else 0
def patC (p : ByteArray) (l : List Ru) (k : Int) : Int := if skC p l = 0 then (if k < 0 then 2 else (if enF p l (lastI (gLn l)) ≤ k then 6 else 0)) else skC p l
/-- where the reference stands while it goes down -/
structure dsP (p : ByteArray) (l : List Ru) (k0 : Int) (k : Int) (r s : Nat) (e : Int) : Prop where
  rl : r < l.length
  sl : s < (paA p).nx.length
  kn : 0 ≤ k
  kb : k < cwW (paA p).nx p.size s (exF l l.length r)
  eb : 0 ≤ e ∧ e + (gLn l).getD r 0 ≤ 1000000000000000
  ok : ∀ x, lvP (paA p).nx p.size s (exF l l.length r) (k + 1) x → lvP (paA p).nx p.size 0 (wd l) (k0 + 1) (e + x)
theorem ds_word {l : List Ru} (hok : gOk l = true) {r : Nat} (hr : r < l.length) (hz : (ruA l r).1.size = 0) : exF l l.length r = exF l l.length (ruA l r).2.1.toNat ++ exF l l.length (ruA l r).2.2.toNat := by
  obtain ⟨q1, q2, q3, q4⟩ := (gOk_rule hok hr).1 hz
  rw [exF_same hok l.length (r + 1) r hr (by omega) hr, exF_pair hz, exF_same hok r l.length _ (by omega) (by omega) (by omega), exF_same hok r l.length (ruA l r).2.2.toNat (by omega) (by omega) (by omega)]
theorem ds_left {p : ByteArray} {l : List Ru} {k0 k e : Int} {r s a : Nat} (hok : gOk l = true) (h : dsP p l k0 k r s e) (hz : (ruA l r).1.size = 0) (ha : (ruA l r).2.1 = (a : Int)) (hk : k < cwW (paA p).nx p.size s (exF l l.length a)) : dsP p l k0 k a s e := by
  obtain ⟨q1, q2, q3, q4⟩ := (gOk_rule hok h.rl).1 hz
  have hw := ds_word hok h.rl hz
  have hl := (gOk_len hok h.rl).1 hz
  rw [ha, Int.toNat_natCast] at hw hl
  have hb := gl_bd hok (show (ruA l r).2.2.toNat < l.length by have := h.rl; omega)
  refine ⟨by have := h.rl; omega, h.sl, h.kn, hk, ⟨h.eb.1, by have := h.eb.2; omega⟩, fun x hx => h.ok x ?_⟩
  rw [hw]
  exact lvP_left hx
theorem ds_right {p : ByteArray} {l : List Ru} {k0 k e : Int} {r s a b t : Nat} (hp : p.size ≤ 20) (hok : gOk l = true) (h : dsP p l k0 k r s e) (hz : (ruA l r).1.size = 0) (ha : (ruA l r).2.1 = (a : Int)) (hb : (ruA l r).2.2 = (b : Int)) (ht : (tA (gSm (paA p).nx l) a).getD s 0 = (t : Int)) (hk : ¬ k < cwW (paA p).nx p.size s (exF l l.length a)) :
    dsP p l k0 (k - cwW (paA p).nx p.size s (exF l l.length a)) b t (e + (gLn l).getD a 0) := by
  obtain ⟨f1, f2, f3, f4, f5⟩ := auOk_facts (paA_ok hp)
  have hn : nxP (paA p).nx := by intro s hs; rw [f4]; exact f5 s hs
  obtain ⟨q1, q2, q3, q4⟩ := (gOk_rule hok h.rl).1 hz
  have hw := ds_word hok h.rl hz
  have hl := (gOk_len hok h.rl).1 hz
  rw [ha, hb, Int.toNat_natCast, Int.toNat_natCast] at hw hl
  have hrl := h.rl
  have hal : a < l.length := by omega
  have hrd := rd_rule hn hok l.length a s hal hal h.sl
  have hmb := smT_bd (nx := (paA p).nx) hn hok l.length a s hal (Nat.le_refl _) h.sl
  have hmb' : 0 ≤ (tA (gSm (paA p).nx l) a).getD s 0 ∧ (tA (gSm (paA p).nx l) a).getD s 0 < (paA p).nx.length := hmb
  rw [ht] at hmb' hrd
  rw [Int.toNat_natCast] at hrd
  have hlen := exF_len hok l.length a hal hal
  have hkb := h.kb
  have hcb := cwW_bd (paA p).nx p.size (exF l l.length a) s
  have hga := gl_bd hok hal
  rw [hw, cwW_app, ← hrd] at hkb
  refine ⟨by omega, by omega, by omega, by omega, ⟨by have := h.eb.1; omega, by have := h.eb.2; omega⟩, fun x hx => ?_⟩
  have h2 := h.ok (((exF l l.length a).length : Int) + x) (by
    rw [hw]
    refine lvP_right (by omega) ?_
    rw [← hrd, show k + 1 - cwW (paA p).nx p.size s (exF l l.length a) = k - cwW (paA p).nx p.size s (exF l l.length a) + 1 by omega]
    exact hx)
  rw [← hlen, Int.add_assoc]
  exact h2
theorem ds_end {p : ByteArray} {l : List Ru} {k0 k e : Int} {r s : Nat} (hp : p.size ≤ 20) (hok : gOk l = true) (h : dsP p l k0 k r s e) (hz : (ruA l r).1.size ≠ 0) : patR p l k0 = e + 1 ∧ 0 ≤ e ∧ e ≤ 1000000000000000 := by
  have hl1 : (exF l l.length r).length = 1 := by
    have := exF_len hok l.length r h.rl h.rl
    rw [(gOk_len hok h.rl).2 hz] at this
    omega
  have hc := cw_let hok p.size h.rl h.sl hz (nx := (paA p).nx)
  have hkb := h.kb
  have hk0 := h.kn
  have h1 : cwW (paA p).nx p.size s (exF l l.length r) = 1 := by
    rw [hc] at hkb ⊢
    split at hkb
    · rename_i he; rw [if_pos he]
    · omega
  have hk : k = 0 := by omega
  subst hk
  have := h.eb
  have hg := gl_bd hok h.rl
  exact ⟨patR_eq (h.ok 1 (lvP_one hl1 h1)), by omega, by omega⟩
theorem ds_start {p : ByteArray} {l : List Ru} {k : Int} (hp : p.size ≤ 20) (hok : gOk l = true) (h0 : l.length ≠ 0) (hk : 0 ≤ k) (hkb : k < cwW (paA p).nx p.size 0 (exF l l.length (l.length - 1))) : dsP p l k k (l.length - 1) 0 0 := by
  refine ⟨by omega, by rw [paA_nx]; omega, hk, hkb, ⟨Int.le_refl _, ?_⟩, fun x hx => ?_⟩
  · have := gl_bd hok (show l.length - 1 < l.length by omega); omega
  · rw [Int.zero_add]; exact hx
theorem i_PatternAt (vg : Value) (l : List Ru) (p : ByteArray) (k : Int) (w : World) (hn : l.length ≤ 1048576) (hsz : ∀ r ∈ l, r.1.size ≤ 1048576) (hg : InRu w vg l) (hz : p.size ≤ 1048576) (hk : (Lit.int .i64 k).wf = true) :
    Calls Try.prog 21 #[.agg #[vg], .string p, .int .i64 k] w fun e w' => e = .returned (.tuple #[.int .i64 (patV p l k), .int .i64 (patC p l k)]) ∧ Below w.heap.size w w' := by
  obtain ⟨ag, kg, rfl⟩ := inRu_sl hg
  have hbx := (Below.refl w.heap.size w).alloc (Nat.le_refl _) (.cells #[.slice ag l.length kg] 26)
  have HBX : Hid (∀ w', Below (w.alloc (.cells #[.slice ag l.length kg] 26)).heap.size (w.alloc (.cells #[.slice ag l.length kg] 26)) w' → Below w.heap.size w w') := fun w' h => below_box h
  by_cases h0 : skC p l = 0
  · have HN := Lib.hid (i_seek (.slice ag l.length kg) p l _ hz hn hsz (inRu_below hg hbx) h0)
    have hp20 := skC_p20 h0
    have hok := (skC_ok h0).1
    have HOK := Lib.hid hok
    have HAO := Lib.hid (paA_ok hp20)
    have HEN : Hid (∀ j, tmS (viV (paA p) l j) (paA p).fi (paA p).fi.length = enF p l j) := fun j => rfl
    have HEB := Lib.hid (enF_bd hp20 hok (lastI (gLn l)))
    have HMO := Lib.hid (enF_mono hp20 hok)
    have HPA := Lib.hid (fun r h h2 => @pat_ans p l hp20 hok k r h h2)
    have HP20 := Lib.hid hp20
    have HSIZ := Lib.hid (fun w => i_size p w)
    by_cases hk0 : k < 0
    · have e1 : patV p l k = 0 := by rw [patV, if_pos h0, if_pos hk0]
      have e2 : patC p l k = 2 := by rw [patC, if_pos h0, if_pos hk0]
      rw [e1, e2]
      have HK0 := Lib.hid hk0
      clear hg hsz hbx h0 e1 e2 hk0 hp20 hok hk
      generalize paA p = a at *
      go_enter Try.func21, Try.ntmps21
      go_wp2_with fail
      refine (HN.out).mono ?_
      rintro e w2 ⟨u1, u2, vl, vm, rfl, hrd2, hb2⟩
      obtain ⟨a1, k1, rfl⟩ := inI_sl hrd2.fi
      obtain ⟨a2, k2, rfl⟩ := inT_sl hrd2.nx
      obtain ⟨B0, hlw⟩ := hrd2.ln
      obtain ⟨al, kl, rfl, -, -⟩ := owns_sl3 hlw
      obtain ⟨am, km, rfl⟩ := inT_sl hrd2.mp
      have HRD2 := Lib.hid hrd2
      have HB2 := Lib.hid (HBX.out _ hb2)
      have HB2' := Lib.hid hb2
      clear hb2 HN hrd2 hlw
      have hk0 := HK0.out
      have hkd : decide (k < 0) = true := decide_eq_true hk0
      go_wp2
      go_ret2
      exact ⟨rfl, by first | exact HB2.out.alloc HB2.out.size _ | exact HB2.out⟩
    · have hk0' : 0 ≤ k := by omega
      have HK0 := Lib.hid hk0'
      by_cases hke : enF p l (lastI (gLn l)) ≤ k
      · have e1 : patV p l k = 0 := by rw [patV, if_pos h0, if_neg hk0, if_pos hke]
        have e2 : patC p l k = 6 := by rw [patC, if_pos h0, if_neg hk0, if_pos hke]
        rw [e1, e2]
        have HKE : Hid (decide (enF p l (lastI (gLn l)) ≤ k) = true) := decide_eq_true hke
        clear hg hsz hbx h0 e1 e2 hk0 hk0' hp20 hok hk hke
        generalize paA p = a at *
        go_enter Try.func21, Try.ntmps21
        go_wp2_with fail
        refine (HN.out).mono ?_
        rintro e w2 ⟨u1, u2, vl, vm, rfl, hrd2, hb2⟩
        obtain ⟨a1, k1, rfl⟩ := inI_sl hrd2.fi
        obtain ⟨a2, k2, rfl⟩ := inT_sl hrd2.nx
        obtain ⟨B0, hlw⟩ := hrd2.ln
        obtain ⟨al, kl, rfl, -, -⟩ := owns_sl3 hlw
        obtain ⟨am, km, rfl⟩ := inT_sl hrd2.mp
        have HRD2 := Lib.hid hrd2
        have HB2 := Lib.hid (HBX.out _ hb2)
        have HB2' := Lib.hid hb2
        clear hb2 HN hrd2 hlw
        have hkd : decide (k < 0) = false := decide_eq_false (by have := HK0.out; omega)
        go_wp2
        have hbox := ride_box w2 (.int .i64 a.st) (.int .i64 a.sa) (.slice a1 a.fi.length k1) (.slice a2 a.nx.length k2) (.slice ag l.length kg) (.slice al l.length kl) (.slice am (gSm a.nx l).length km)
        refine gen_world2 (fun w3 => rd7 w2.heap.size (.int .i64 a.st) (.int .i64 a.sa) (.slice a1 a.fi.length k1) (.slice a2 a.nx.length k2) (.slice ag l.length kg) (.slice al l.length kl) (.slice am (gSm a.nx l).length km) w3 ∧ Below w2.heap.size w2 w3) hbox ?_
        clear hbox
        rintro w3 ⟨⟨c0, c1, c2, c3, c4, c5, c6⟩, hb3⟩
        have HRD3 := Lib.hid (inRd_below HRD2.out hb3)
        have HB3 := Lib.hid (HB2.out.trans (hb3.mono HB2.out.size))
        have HB3' := Lib.hid (HB2'.out.trans (hb3.mono HB2'.out.size))
        have HSS : Hid (∀ w', Below w3.heap.size w3 w' → (w'.cell? ⟨w2.heap.size, 0, none⟩ = some (.int .i64 a.st) ∧ w'.cell? ⟨w2.heap.size, 1, none⟩ = some (.int .i64 a.sa) ∧ w'.cell? ⟨w2.heap.size, 2, none⟩ = some (.slice a1 a.fi.length k1) ∧ w'.cell? ⟨w2.heap.size, 3, none⟩ = some (.slice a2 a.nx.length k2) ∧ w'.cell? ⟨w2.heap.size, 4, none⟩ = some (.slice ag l.length kg) ∧ w'.cell? ⟨w2.heap.size, 5, none⟩ = some (.slice al l.length kl) ∧ w'.cell? ⟨w2.heap.size, 6, none⟩ = some (.slice am (gSm a.nx l).length km))) := fun w' h => ⟨cell_later h c0, cell_later h c1, cell_later h c2, cell_later h c3, cell_later h c4, cell_later h c5, cell_later h c6⟩
        have hb3k := hb3
        clear hb3
        clear hb3k
        go_region_held3 (fun w' => w'.cell? ⟨w2.heap.size, 0, none⟩ = some (.int .i64 a.st) ∧ w'.cell? ⟨w2.heap.size, 1, none⟩ = some (.int .i64 a.sa) ∧ w'.cell? ⟨w2.heap.size, 2, none⟩ = some (.slice a1 a.fi.length k1) ∧ w'.cell? ⟨w2.heap.size, 3, none⟩ = some (.slice a2 a.nx.length k2) ∧ w'.cell? ⟨w2.heap.size, 4, none⟩ = some (.slice ag l.length kg) ∧ w'.cell? ⟨w2.heap.size, 5, none⟩ = some (.slice al l.length kl) ∧ w'.cell? ⟨w2.heap.size, 6, none⟩ = some (.slice am (gSm a.nx l).length km)) (exact HSS.out _ (by (repeat (first | exact Below.refl _ _ | apply Below.drew | (refine bl_tr ?_ hT2) | (refine bl_tr ?_ hT1))); done)) (first | (go_at_call 42; with_reducible refine (rd_length (inRd_below HRD3.out (by (repeat (first | exact Below.refl _ _ | apply Below.drew)); done)) HOK.out).mono ?_; rintro e wA ⟨rfl, hT1⟩) | (go_at_call 41; with_reducible refine (rd_ends (inRd_below HRD3.out (by (repeat (first | exact Below.refl _ _ | apply Below.drew | (refine bl_tr ?_ hT1))); done)) HOK.out HAO.out _).mono ?_; rintro e wB ⟨rfl, hT2⟩))
        have hbf : Below w3.heap.size w3 wB := by (repeat (first | exact Below.refl _ _ | apply Below.drew | (refine bl_tr ?_ hT2) | (refine bl_tr ?_ hT1))); done
        have HBF := Lib.hid (HB3.out.trans (hbf.mono HB3.out.size))
        rw [HEN.out, HKE.out]
        clear hT1 hT2 hbf c0 c1 c2 c3 c4 c5 c6
        go_wp2
        go_ret2
        exact ⟨rfl, HBF.out⟩
      · have e1 : patV p l k = patR p l k - p.size := by rw [patV, if_pos h0, if_neg hk0, if_neg hke]
        have e2 : patC p l k = 0 := by rw [patC, if_pos h0, if_neg hk0, if_neg hke]
        rw [e2]
        have HE1 := Lib.hid e1
        have HKE : Hid (decide (enF p l (lastI (gLn l)) ≤ k) = false) := decide_eq_false hke
        have HKT : Hid (decide (k + 1 ≤ enF p l (lastI (gLn l))) = true) := decide_eq_true (by omega)
        have HKL : Hid (k < enF p l (lastI (gLn l))) := by show _ < _; omega
        have hkb : k ≤ 1000000000000000 := by have := HEB.out; omega
        clear hg hsz hbx h0 e1 e2 hk0 hp20 hok hk hke
        generalize paA p = a at *
        go_enter Try.func21, Try.ntmps21
        go_wp2_with fail
        refine (HN.out).mono ?_
        rintro e w2 ⟨u1, u2, vl, vm, rfl, hrd2, hb2⟩
        obtain ⟨a1, k1, rfl⟩ := inI_sl hrd2.fi
        obtain ⟨a2, k2, rfl⟩ := inT_sl hrd2.nx
        obtain ⟨B0, hlw⟩ := hrd2.ln
        obtain ⟨al, kl, rfl, -, -⟩ := owns_sl3 hlw
        obtain ⟨am, km, rfl⟩ := inT_sl hrd2.mp
        have HRD2 := Lib.hid hrd2
        have HB2 := Lib.hid (HBX.out _ hb2)
        have HB2' := Lib.hid hb2
        clear hb2 HN hrd2 hlw
        have hkd : decide (k < 0) = false := decide_eq_false (by have := HK0.out; omega)
        go_wp2
        have hbox := ride_box w2 (.int .i64 a.st) (.int .i64 a.sa) (.slice a1 a.fi.length k1) (.slice a2 a.nx.length k2) (.slice ag l.length kg) (.slice al l.length kl) (.slice am (gSm a.nx l).length km)
        refine gen_world2 (fun w3 => rd7 w2.heap.size (.int .i64 a.st) (.int .i64 a.sa) (.slice a1 a.fi.length k1) (.slice a2 a.nx.length k2) (.slice ag l.length kg) (.slice al l.length kl) (.slice am (gSm a.nx l).length km) w3 ∧ Below w2.heap.size w2 w3) hbox ?_
        clear hbox
        rintro w3 ⟨⟨c0, c1, c2, c3, c4, c5, c6⟩, hb3⟩
        have HRD3 := Lib.hid (inRd_below HRD2.out hb3)
        have HB3 := Lib.hid (HB2.out.trans (hb3.mono HB2.out.size))
        have HB3' := Lib.hid (HB2'.out.trans (hb3.mono HB2'.out.size))
        have HSS : Hid (∀ w', Below w3.heap.size w3 w' → (w'.cell? ⟨w2.heap.size, 0, none⟩ = some (.int .i64 a.st) ∧ w'.cell? ⟨w2.heap.size, 1, none⟩ = some (.int .i64 a.sa) ∧ w'.cell? ⟨w2.heap.size, 2, none⟩ = some (.slice a1 a.fi.length k1) ∧ w'.cell? ⟨w2.heap.size, 3, none⟩ = some (.slice a2 a.nx.length k2) ∧ w'.cell? ⟨w2.heap.size, 4, none⟩ = some (.slice ag l.length kg) ∧ w'.cell? ⟨w2.heap.size, 5, none⟩ = some (.slice al l.length kl) ∧ w'.cell? ⟨w2.heap.size, 6, none⟩ = some (.slice am (gSm a.nx l).length km))) := fun w' h => ⟨cell_later h c0, cell_later h c1, cell_later h c2, cell_later h c3, cell_later h c4, cell_later h c5, cell_later h c6⟩
        have hb3k := hb3
        clear hb3
        clear hb3k
        have HCS := Lib.hid (And.intro c0 (And.intro c1 (And.intro c2 (And.intro c3 (And.intro c4 (And.intro c5 c6))))))
        go_region_held3 (fun w' => w'.cell? ⟨w2.heap.size, 0, none⟩ = some (.int .i64 a.st) ∧ w'.cell? ⟨w2.heap.size, 1, none⟩ = some (.int .i64 a.sa) ∧ w'.cell? ⟨w2.heap.size, 2, none⟩ = some (.slice a1 a.fi.length k1) ∧ w'.cell? ⟨w2.heap.size, 3, none⟩ = some (.slice a2 a.nx.length k2) ∧ w'.cell? ⟨w2.heap.size, 4, none⟩ = some (.slice ag l.length kg) ∧ w'.cell? ⟨w2.heap.size, 5, none⟩ = some (.slice al l.length kl) ∧ w'.cell? ⟨w2.heap.size, 6, none⟩ = some (.slice am (gSm a.nx l).length km)) (exact HSS.out _ (by (repeat (first | exact Below.refl _ _ | apply Below.drew | (refine bl_tr ?_ hT2) | (refine bl_tr ?_ hT1))); done)) (first | (go_at_call 42; with_reducible refine (rd_length (inRd_below HRD3.out (by (repeat (first | exact Below.refl _ _ | apply Below.drew)); done)) HOK.out).mono ?_; rintro e wA ⟨rfl, hT1⟩) | (go_at_call 41; with_reducible refine (rd_ends (inRd_below HRD3.out (by (repeat (first | exact Below.refl _ _ | apply Below.drew | (refine bl_tr ?_ hT1))); done)) HOK.out HAO.out _).mono ?_; rintro e wB ⟨rfl, hT2⟩))
        have hbf : Below w3.heap.size w3 wB := by (repeat (first | exact Below.refl _ _ | apply Below.drew | (refine bl_tr ?_ hT2) | (refine bl_tr ?_ hT1))); done
        have HBF := Lib.hid (HB3.out.trans (hbf.mono HB3.out.size))
        have HRDB := Lib.hid (inRd_below HRD3.out hbf)
        obtain ⟨d0, d1, d2, d3, d4, d5, d6⟩ := HSS.out wB hbf
        have hmf : ∀ (fn : Fn) (first cap : Array Value) (w : World), (Instr.makeFunc fn first cap).run Try.prog w = .ok (.func fn first cap) w := fun _ _ _ _ => rfl
        have HLE := Lib.hid (rd_least HRDB.out HOK.out (k + 1) (enF p l) 41 #[.agg #[.int .i64 a.st, .int .i64 a.sa, .slice a1 a.fi.length k1, .slice a2 a.nx.length k2, .slice ag l.length kg, .slice al l.length kl, .slice am (gSm a.nx l).length km]] #[] (enters_of Try.func41 (by kernel_rfl) rfl) HMO.out
          (fun j w' _ _ hb' => (rd_ends (inRd_below HRDB.out hb') HOK.out HAO.out j).mono (fun e w'' h => by rw [← HEN.out]; exact h)))
        rw [HEN.out, HKE.out]
        clear hT1 hT2 hbf c0 c1 c2 c3 c4 c5 c6
        go_wp2_with fail
        refine HLE.out.mono ?_
        rintro e w4 ⟨r, rfl, hls, hb4⟩
        obtain ⟨hr, hr0, hr1⟩ := HPA.out r hls HKL.out
        have HR := Lib.hid hr
        have HB4 := Lib.hid (HBF.out.trans (hb4.mono HBF.out.size))
        have hp2 := HP20.out
        rw [HKT.out]
        clear hls hb4 hr HLE
        go_wp2_with fail
        refine (HSIZ.out _).mono ?_
        rintro e w5 ⟨rfl, rfl⟩
        go_wp2
        go_ret2
        exact ⟨by rw [HE1.out, HR.out]; rfl, HB4.out⟩
  · have e1 : patV p l k = 0 := by rw [patV, if_neg h0]
    have e2 : patC p l k = skC p l := by rw [patC, if_neg h0]
    have HN := Lib.hid (i_seek_f (.slice ag l.length kg) p l _ hz hn hsz (inRu_below hg hbx) h0)
    have hcb : (skC p l == 0) = false := by rw [beq_eq_false_iff_ne]; exact h0
    have HCB := Lib.hid hcb
    rw [e1, e2]
    clear e1 e2 hg hsz hbx h0 hcb hk
    generalize skC p l = c at *
    go_enter Try.func21, Try.ntmps21
    go_wp2_with fail
    refine (HN.out).mono ?_
    rintro e w2 ⟨rfl, hb2⟩
    have BF := HBX.out _ hb2
    have hcb := HCB.out
    clear hb2 HN
    go_wp2
    go_ret2
    exact ⟨rfl, by first | exact BF.alloc BF.size _ | exact BF | exact ((BF.alloc BF.size _).setCell (by simp; exact BF.size) _)⟩
end Go.Proofs.Ytimfbnjgodbgoaa
