/- ThueWord, of the program and of the reference, and its law. -/
import Derived.Test.YtdighfjoechbkaaB2
import Derived.Test.YtdighfjoechbkaaB4
import Derived.Laws.EntriesVeiled
namespace Go.Proofs.Ytdighfjoechbkaa
open Go.ChangeShapes Go.WideShapes Go.RowKit
set_option linter.unusedVariables false
set_option linter.unusedSimpArgs false
set_option maxHeartbeats 2000000
set_option maxRecDepth 100000
def oth (c : UInt8) : UInt8 := if c = 97 then 98 else if c = 98 then 97 else c
def othS (s : ByteArray) : ByteArray := ⟨(s.data.toList.map oth).toArray⟩
def thw : Nat → ByteArray
  | 0 => ⟨#[97]⟩
  | k + 1 => thw k ++ othS (thw k)
theorem othS_size (s : ByteArray) : (othS s).size = s.size := by
  show (s.data.toList.map oth).toArray.size = s.data.size
  simp
theorem thw_size : ∀ k, (thw k).size = 2 ^ k
  | 0 => rfl
  | k + 1 => by
    rw [thw, ByteArray.size_append, othS_size, thw_size k, Nat.pow_succ]; omega
theorem thw_small (k : Nat) (hk : k ≤ 22) : (thw k).size ≤ 4194304 := by
  rw [thw_size]
  exact Nat.pow_le_pow_right (by decide) hk
/-- only a and b -/
def ABs (s : ByteArray) : Prop := ∀ c ∈ s.data.toList, c = 97 ∨ c = 98
theorem abs_oth {s : ByteArray} (h : ABs s) : ABs (othS s) := by
  intro c hc
  simp [othS] at hc
  obtain ⟨d, hd, rfl⟩ := hc
  rcases h d (by simpa using hd) with rfl | rfl
  · right; rfl
  · left; rfl
theorem abs_thw : ∀ k, ABs (thw k)
  | 0 => by intro c hc; left; simpa [thw] using hc
  | k + 1 => by
    intro c hc
    rw [thw] at hc
    simp only [ByteArray.data_append, Array.toList_append, List.mem_append] at hc
    rcases hc with hc | hc
    · exact abs_thw k c hc
    · exact abs_oth (abs_thw k) c hc
theorem oth_a {c : UInt8} (h : c = 97) : oth c = 98 := by simp [oth, h]
theorem oth_b {c : UInt8} (h : c = 98) : oth c = 97 := by subst h; rfl
theorem oth_c {c : UInt8} (h1 : ¬ c = 97) (h2 : ¬ c = 98) : oth c = c := by simp [oth, h1, h2]
theorem map_snoc (f : UInt8 → UInt8) (s : ByteArray) (k : Nat) (h : k < s.size) : (s.data.toList.take (k + 1)).map f = (s.data.toList.take k).map f ++ [f s[k]] := by
  rw [take_snoc s k h]; simp
theorem byte_is {a : UInt8} {n : Nat} (hn : n < 256) (h : a = UInt8.ofNat n) : (a.toNat : Int) = n := by subst h; simp; omega
theorem byte_isnt {a : UInt8} {n : Nat} (hn : n < 256) (h : ¬ a = UInt8.ofNat n) : ((a.toNat : Int) == (n : Int)) = false := by
  simp only [beq_eq_false_iff_ne]
  intro e
  apply h
  have : a.toNat = n := by omega
  rw [← this]; simp
/-- a and b exchanged by a sum -/
def othI (s : ByteArray) : List Int := s.data.toList.map fun c => (oth c).toNat
theorem oth_sub {c : UInt8} (h : c = 97 ∨ c = 98) : IntKind.u8.wrap (195 - (c.toNat : Int)) = ((oth c).toNat : Int) := by
  rcases h with rfl | rfl <;> decide
theorem i_ThueWord_1 (s : ByteArray) (w : World) (hs : s.size ≤ 8388608) (hab : ABs s) : Calls Try.prog 85 #[.string s] w fun e w' => e = .returned (.string (othS s)) ∧ Below w.heap.size w w' := by
  have hs' : s.size ≤ 9223372036854775807 := by omega
  obtain ⟨cap, w1, hcv, hrw, hb, hsz⟩ := conv_bytes s w
  have HR := Lib.hid hrw
  have HB := Lib.hid hb
  have HS := Lib.hid hsz
  have HA := Lib.hid hab
  clear hrw hb hsz hab
  have hgl : w.heap.size < w1.heap.size := by rw [HS.out]; omega
  go_enter Try.func85, Try.ntmps85
  generalize hgw : w.heap.size = g at *
  have HGW := Lib.hid hgw
  clear hgw
  go_wp2
  go_loopw [4, 5, 10] (fun _ _ i wr => w1.grownBy wr (some g) ∧ ∃ k : Nat, k ≤ s.size ∧ i = .int .i64 k ∧ (∀ t, t < s.size → wr.cell? ⟨g, t, none⟩ = some (.int .u8 (if t < k then (((oth (s.data.toList.getD t 0)).toNat : Nat) : Int) else ((s.data.toList.getD t 0).toNat : Int)))) ∧ ∀ t, t < s.size → wr.frozen? ⟨g, t, none⟩ = false) (fun _ _ i _ => s.size - (intOf i).toNat)
  case atStart => 
    refine ⟨World.grownBy.refl _ _, 0, by omega, rfl, fun t ht => ?_, fun t ht => HR.out.fro t (by simpa [u8s] using ht)⟩
    have : t < s.data.toList.length := by simpa using ht
    rw [HR.out.cell t (by simpa [u8s] using ht)]
    simp [u8s, List.getD, List.getElem?_eq_getElem this]
  case round =>
    obtain ⟨hg, k, hk, rfl, hc, hf⟩ := hrel
    have HC := Lib.hid hc
    have HF := Lib.hid hf
    have HG := Lib.hid hg
    clear hc hf hg
    by_cases hlt : k < s.size
    · have hck := HC.out k hlt
      have hfk := HF.out k hlt
      rw [if_neg (by omega)] at hck
      have hin : ((k : Nat) : Int) < s.size := by omega
      have hlx : k < s.data.toList.length := by simpa using hlt
      have hab := oth_sub (HA.out (s.data.toList.getD k 0) (by simp only [List.getD, List.getElem?_eq_getElem hlx, Option.getD_some]; exact List.getElem_mem hlx))
      have HN : Hid (∀ t, t < s.size → (wr.setCell ⟨g, k, none⟩ (.int .u8 ((oth (s.data.toList.getD k 0)).toNat : Int))).cell? ⟨g, t, none⟩ = some (.int .u8 (if t < k + 1 then (((oth (s.data.toList.getD t 0)).toNat : Nat) : Int) else ((s.data.toList.getD t 0).toNat : Int)))) := by
        intro t ht
        by_cases he : t = k
        · subst he
          rw [World.cell?_setCell_same (h := hck), if_pos (by omega)]
        · rw [World.cell?_setCell_other (h := by intro h; injection h; omega), HC.out t ht]
          by_cases hlt2 : t < k
          · rw [if_pos hlt2, if_pos (by omega)]
          · rw [if_neg hlt2, if_neg (by omega)]
      generalize (oth (s.data.toList.getD k 0)).toNat = y at *
      generalize (s.data.toList.getD k 0).toNat = x at *
      go_wp2
      go_roundw
      case rel => exact ⟨grown_set HG.out _ _, k + 1, by omega, by go_num, HN.out, fun t ht => by simpa using HF.out t ht⟩
      case measure => first | (simp [intOf]; done) | (simp [intOf]; omega)
    · have ek : k = s.size := by omega
      have hrw2 : Rw wr g (u8s (s.data.toList.map oth)) := by
        refine ⟨Nat.lt_of_lt_of_le hgl HG.out.size, fun j hj => ?_, fun j hj => HF.out j (by simpa [u8s] using hj)⟩
        have hj' : j < s.size := by simpa [u8s] using hj
        have hj2 : j < s.data.toList.length := by simpa using hj'
        rw [HC.out j hj', if_pos (by omega)]
        simp [u8s, List.getD, List.getElem?_eq_getElem hj2]
      have hc2 := byt_conv (n := s.size) (cap := cap) (by simp) hrw2
      clear hrw2
      go_wp2
      go_ret
      exact ⟨rfl, HB.out.grown HG.out (by rw [HS.out]; omega) (fun k hk => by injection hk; omega)⟩
theorem i_ThueWord_2 (s : ByteArray) (b1 : Nat) (w : World) (hs : s.size ≤ 4194304) (hab : ABs s) (h1 : w.cell? ⟨b1, 0, none⟩ = some (.func (.func 85) #[] #[])) : Calls Try.prog 86 #[.string s, .pointer (some ⟨b1, 0, none⟩)] w fun e w' => e = .returned (.string (s ++ othS s)) ∧ Below w.heap.size w w' := by
  have hsz := othS_size s
  have hs2 : (othS s).size ≤ 4194304 := by omega
  have HAB := Lib.hid hab
  clear hab hsz
  go_enter Try.func86, Try.ntmps86
  go_wp2_with (go_at_call 85; refine (i_ThueWord_1 _ _ (by omega) HAB.out).mono ?_; rintro e w1 ⟨rfl, hb⟩)
  go_ret
  exact ⟨rfl, hb⟩
theorem i_ThueWord_3 (s0 s : ByteArray) (b1 b2 : Nat) (w : World) (hs : s.size ≤ 4194304) (hab : ABs s) (h1 : w.cell? ⟨b1, 0, none⟩ = some (.func (.func 85) #[] #[])) (h2 : w.cell? ⟨b2, 0, none⟩ = some (.func (.func 86) #[] #[.pointer (some ⟨b1, 0, none⟩)])) : Calls Try.prog 87 #[.string s0, .string s, .pointer (some ⟨b2, 0, none⟩)] w fun e w' => e = .returned (.string (s ++ othS s)) ∧ Below w.heap.size w w' := by
  have HAB := Lib.hid hab
  have H1 := Lib.hid h1
  clear hab h1
  go_enter Try.func87, Try.ntmps87
  go_wp2_with (go_at_call 86; refine (i_ThueWord_2 _ _ _ (by omega) HAB.out H1.out).mono ?_; rintro e w1 ⟨rfl, hb⟩)
  go_ret
  exact ⟨rfl, hb⟩
theorem thw_1 : thw 1 = ⟨#[97, 98]⟩ := by decide
theorem i_grown_thue (n : Int) (b1 b2 : Nat) (w : World) (hb1 : b1 < w.heap.size) (hb2 : b2 < w.heap.size) (h1 : w.cell? ⟨b1, 0, none⟩ = some (.func (.func 85) #[] #[])) (h2 : w.cell? ⟨b2, 0, none⟩ = some (.func (.func 86) #[] #[.pointer (some ⟨b1, 0, none⟩)])) :
    Calls Try.prog 82 #[.int .i64 n, .string ⟨#[97]⟩, .string ⟨#[97, 98]⟩, .func (.func 87) #[] #[.pointer (some ⟨b2, 0, none⟩)]] w fun e w' => e = .returned (.tuple #[.string (grW thw n), .int .i64 (grC thw n)]) ∧ Below w.heap.size w w' := by
  have H1 := Lib.hid h1
  have H2 := Lib.hid h2
  clear h1 h2
  by_cases hn : n < 0 ∨ 20 < n
  · have H := Lib.hid (gr_out thw hn)
    go_enter Try.func82, Try.ntmps82
    go_wp2_with (go_at_call 80; refine (i_within_r _ _ _ false (by simp; omega) _).mono ?_; rintro e w' ⟨rfl, rfl⟩)
    go_ret2
    exact ⟨ret_si H.out.1.symm H.out.2.symm, Below.refl _ _⟩
  · obtain ⟨m, rfl⟩ := Int.eq_ofNat_of_zero_le (show 0 ≤ n by omega)
    have hm : m ≤ 20 := by omega
    clear hn
    go_enter Try.func82, Try.ntmps82
    go_wp2_with (go_at_call 80; refine (i_within_r _ _ _ true (by simp; omega) _).mono ?_; rintro e w' ⟨rfl, rfl⟩)
    go_loopw [1, 2, 14] (fun u v i wr => Below w.heap.size w wr ∧ ∃ k : Nat, k ≤ m ∧ i = .int .i64 k ∧ u = .string (thw k) ∧ v = .string (thw (k + 1)) ∧ badB thw k = false) (fun _ _ i _ => m - (intOf i).toNat)
    case atStart => exact ⟨Below.refl _ _, 0, by omega, rfl, rfl, by rw [thw_1], rfl⟩
    case round =>
      obtain ⟨hb, k, hk, rfl, rfl, rfl, hbad⟩ := hrel
      by_cases hlt : k < m
      · have hs1 := thw_small k (by omega)
        have hs2 := thw_small (k + 1) (by omega)
        have HAB := Lib.hid (abs_thw (k + 1))
        have EK : Hid (thw (k + 1) ++ othS (thw (k + 1)) = thw (k + 1 + 1)) := rfl
        have HS := Lib.hid (badB_step (k := k) hbad)
        have HH := Lib.hid (badB_hit (f := thw) hlt)
        have HG := Lib.hid (gr_bad thw hm)
        have HB := Lib.hid hb
        have c1 : Hid (wr.cell? ⟨b1, 0, none⟩ = some (.func (.func 85) #[] #[])) := (hb.cell (p := ⟨b1, 0, none⟩) hb1).trans H1.out
        have c2 : Hid (wr.cell? ⟨b2, 0, none⟩ = some (.func (.func 86) #[] #[.pointer (some ⟨b1, 0, none⟩)])) := (hb.cell (p := ⟨b2, 0, none⟩) hb2).trans H2.out
        clear hbad hb
        by_cases hbig : 2000 < (thw (k + 1)).size
        · have HF := Lib.hid (HG.out (HH.out hbig))
          generalize thw (k + 1) = y at *
          generalize thw k = x at *
          go_wp2_with (go_at_call 87; refine (i_ThueWord_3 _ _ _ _ _ (by omega) HAB.out c1.out c2.out).mono ?_; rintro e w1 ⟨rfl, hb1⟩)
          go_ret2
          exact ⟨ret_si HF.out.1.symm HF.out.2.symm, HB.out.trans (hb1.mono HB.out.size)⟩
        · have HF := Lib.hid (HS.out (by omega))
          generalize hy : thw (k + 1) = y at *
          have HY := Lib.hid hy
          clear hy
          generalize thw k = x at *
          go_wp2_with (go_at_call 87; refine (i_ThueWord_3 _ _ _ _ _ (by omega) HAB.out c1.out c2.out).mono ?_; rintro e w1 ⟨rfl, hb1⟩)
          go_roundw
          case rel => exact ⟨HB.out.trans (hb1.mono HB.out.size), k + 1, by omega, by go_num, by rw [HY.out], by rw [EK.out], HF.out⟩
          case measure => first | (simp [intOf]; done) | (simp [intOf]; omega)
      · have ek : k = m := by omega
        subst ek
        have HF := Lib.hid (gr_ok thw hm hbad)
        clear hbad
        go_wp2
        go_ret2
        exact ⟨ret_si HF.out.1.symm HF.out.2.symm, hb⟩
theorem i_ThueWord (n : Int) (w : World) : Calls Try.prog 54 #[.int .i64 n] w fun e w' => e = .returned (.tuple #[.string (grW thw n), .int .i64 (grC thw n)]) ∧ Below w.heap.size w w' := by
  have hmf : ∀ (fn : Fn) (first cap : Array Value) (w : World), (Instr.makeFunc fn first cap).run Try.prog w = .ok (.func fn first cap) w := fun _ _ _ _ => rfl
  go_enter Try.func54, Try.ntmps54
  go_wp2_with fail
  refine (i_grown_thue _ w.heap.size (w.heap.size + 1) _ (by simp; omega) (by simp) ?_ ?_).mono ?_
  · rw [World.cell?_alloc_past _ _ _ (by simp), World.cell?_alloc_at _ _ _ _ rfl]; rfl
  · rw [World.cell?_alloc_at _ _ _ _ (by simp)]; rfl
  rintro e w1 ⟨rfl, hb⟩
  go_wp2
  go_ret2
  exact ⟨ret_si rfl rfl, (((Below.refl _ _).alloc (Nat.le_refl _) _).alloc (by simp) _).trans (hb.mono (by simp; omega))⟩
end Go.Proofs.Ytdighfjoechbkaa
