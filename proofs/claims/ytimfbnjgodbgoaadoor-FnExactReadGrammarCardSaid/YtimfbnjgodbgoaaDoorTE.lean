/- ReadGrammar of the reference: l01Split and l01Number. -/
import Derived.Test.YtimfbnjgodbgoaaDoorTD
namespace Go.Proofs.YtimfbnjgodbgoaaDoor
open Go.ChangeShapes Go.WideShapes Go.RowKit
set_option linter.unusedVariables false
set_option linter.unusedSimpArgs false
set_option maxHeartbeats 2000000
set_option maxRecDepth 100000
theorem info_strT : (Tryd.prog.info? 9).map (fun i => (i.zero, i.size, i.bytes)) = some (some (.string ⟨#[]⟩), 1, 16) := by kernel_rfl
def spS (c : UInt8) (s : ByteArray) (i f : Nat) (out : List ByteArray) : Prop := f ≤ i ∧ out.length ≤ i ∧ spl c (s.data.toList.take i) = out.map (fun x => x.data.toList) ++ [(s.data.toList.take i).drop f]
theorem spS_start (c : UInt8) (s : ByteArray) : spS c s 0 0 [] := ⟨Nat.le_refl _, Nat.le_refl _, rfl⟩
theorem ext_td (s : ByteArray) {f i : Nat} (h : f ≤ i) : (s.extract f i).data.toList = (s.data.toList.take i).drop f := by
  rw [Lib.extract_data, List.drop_take]
theorem spS_no {c : UInt8} {s : ByteArray} {i f : Nat} {out : List ByteArray} (h : spS c s i f out) (hi : i < s.size) (hc : s[i] ≠ c) : spS c s (i + 1) f out := by
  obtain ⟨h1, h2, h3⟩ := h
  refine ⟨by omega, by omega, ?_⟩
  rw [take_snoc s i hi, spl_snoc _ h3, if_neg hc, List.drop_append_of_le_length]
  rw [List.length_take]
  have : s.data.toList.length = s.size := by rw [Array.length_toList]; rfl
  omega
theorem spS_yes {c : UInt8} {s : ByteArray} {i f : Nat} {out : List ByteArray} (h : spS c s i f out) (hi : i < s.size) (hc : s[i] = c) : spS c s (i + 1) (i + 1) (out ++ [s.extract f i]) := by
  obtain ⟨h1, h2, h3⟩ := h
  refine ⟨Nat.le_refl _, by rw [List.length_append, List.length_singleton]; omega, ?_⟩
  have hl : s.data.toList.length = s.size := by rw [Array.length_toList]; rfl
  have e : (s.data.toList.take i ++ [s[i]]).drop (i + 1) = [] := by
    apply List.drop_of_length_le
    rw [List.length_append, List.length_take, List.length_singleton]; omega
  rw [take_snoc s i hi, spl_snoc _ h3, if_pos hc, List.map_append, List.map_cons, List.map_nil, ext_td s h1, e]
theorem spS_end {c : UInt8} {s : ByteArray} {f : Nat} {out : List ByteArray} (h : spS c s s.size f out) : linS c s = out ++ [s.extract f s.size] := by
  obtain ⟨h1, h2, h3⟩ := h
  have hl : s.data.toList.length = s.size := by rw [Array.length_toList]; rfl
  rw [List.take_of_length_le (by omega)] at h3
  rw [linS, h3, List.map_append, List.map_map]
  congr 1
  · conv => rhs; rw [← List.map_id out]
    apply List.map_congr_left
    intro x _
    rfl
  · have := ext_td s (f := f) (i := s.size) h1
    rw [List.take_of_length_le (by omega)] at this
    rw [List.map_cons, List.map_nil, ← this]
theorem s_l01Split (s : ByteArray) (c : UInt8) (k : Int) (hk : k = (c.toNat : Int)) (w : World) (hs : s.size ≤ 20000) :
    Calls Tryd.prog 24 #[.string s, .int .u8 k] w fun e w' => ∃ v, e = .returned v ∧ w'.ownsRow w.heap.size 9 1 v (linS c s).length ((linS c s).map Value.string) ∧ Below w.heap.size w w' := by
  have HK := Lib.hid hk
  clear hk
  go_enter Tryd.func24, Tryd.ntmps24
  go_wp2
  go_loopw [5, 6, 7] (fun v f i wr => Below w.heap.size w wr ∧ ∃ (j q : Nat) (out : List ByteArray), j ≤ s.size ∧ i = .int .i64 j ∧ f = .int .i64 q ∧ spS c s j q out ∧ wr.ownsRow w.heap.size 9 1 v out.length (out.map Value.string)) (fun _ _ i _ => s.size - (intOf i).toNat)
  case atStart => exact ⟨(Below.refl _ _).alloc (Nat.le_refl _) _, 0, 0, [], by omega, rfl, rfl, spS_start c s, World.ownsRow_made w #[] 0 (Nat.le_refl _) (by decide) (by simp)⟩
  case round =>
    obtain ⟨hb, j, q, out, hj, rfl, rfl, hsp, hown⟩ := hrel
    have hsz := hb.size
    have hqj := hsp.1
    have hol := hsp.2.1
    have HSP := Lib.hid hsp
    clear hsp
    by_cases hlt : j < s.size
    · have hji : (j : Int) < (s.size : Int) := by omega
      by_cases hc : s[j] = c
      · have HY := Lib.hid (spS_yes HSP.out hlt hc)
        have hkk : k = (s[j].toNat : Int) := by rw [HK.out, hc]
        subst hkk
        clear hc HK
        go_wp2_with (at_builtin; refine app2 rfl (.tmp 20) (.tmp 25) 57 rfl w.heap.size 9 (.string ⟨#[]⟩) 1 16 Tryd.underlying57 info_strT rfl (by decide) _ _ _ _ _ rfl hown [.string (s.extract q j)] rfl (by simp [Value.oneCell']) rfl (by simp) (by omega) (by decide) (by simpa using hsz) ?_; intro v' w3 ho3 hg3 hk3)
        go_roundw
        case rel => exact ⟨hb.trans (below_of_grown hg3 hsz (fun t ht => (hown.lt t ht).1)), j + 1, j + 1, out ++ [s.extract q j], by omega, by go_num, by go_num, HY.out, by simpa using ho3⟩
        case measure => first | (simp [intOf]; done) | (simp [intOf]; omega)
      · have HN := Lib.hid (spS_no HSP.out hlt hc)
        have hkk : ((s[j].toNat : Int) == k) = false := by
          rw [beq_eq_false_iff_ne, HK.out]; intro e
          exact hc (UInt8.toNat_inj.1 (by omega))
        clear hc HK
        go_wp2
        go_roundw
        case rel => exact ⟨hb, j + 1, q, out, by omega, by go_num, rfl, HN.out, hown⟩
        case measure => first | (simp [intOf]; done) | (simp [intOf]; omega)
    · obtain rfl : j = s.size := by omega
      have HE := Lib.hid (spS_end HSP.out)
      clear hlt HK
      go_wp2_with (at_builtin; refine app2 rfl (.tmp 29) (.tmp 33) 57 rfl w.heap.size 9 (.string ⟨#[]⟩) 1 16 Tryd.underlying57 info_strT rfl (by decide) _ _ _ _ _ rfl hown [.string (s.extract q s.size)] rfl (by simp [Value.oneCell']) rfl (by simp) (by omega) (by decide) (by simpa using hsz) ?_; intro v' w3 ho3 hg3 hk3)
      go_ret
      rw [HE.out]
      exact ⟨_, rfl, by simpa using ho3, hb.trans (below_of_grown hg3 hsz (fun t ht => (hown.lt t ht).1))⟩
theorem nuV_step {s : ByteArray} {i n : Nat} (h : nuV 0 (s.data.toList.take i) = some n) (hi : i < s.size) (hd : 48 ≤ s[i].toNat ∧ s[i].toNat ≤ 57) : nuV 0 (s.data.toList.take (i + 1)) = some (n * 10 + (s[i].toNat - 48)) := by
  rw [take_snoc s i hi, nuV_app, h]
  show nuV n [s[i]] = _
  rw [nuV, if_pos hd, nuV]
theorem nuV_bad {s : ByteArray} {i n : Nat} (h : nuV 0 (s.data.toList.take i) = some n) (hi : i < s.size) (hd : ¬ (48 ≤ s[i].toNat ∧ s[i].toNat ≤ 57)) : nuV 0 s.data.toList = none := by
  have hl : s.data.toList.length = s.size := by rw [Array.length_toList]; rfl
  have e : s.data.toList = s.data.toList.take i ++ s.data.toList.drop i := (List.take_append_drop i _).symm
  rw [e, nuV_app, h]
  show nuV n _ = _
  rw [List.drop_eq_getElem_cons (by omega), nuV, if_neg]
  exact hd
def nuN (s : ByteArray) : Int := ((nuF s.data.toList).getD 0 : Nat)
def nuB (s : ByteArray) : Bool := (nuF s.data.toList).isSome
theorem nu_bad {s : ByteArray} (h : nuF s.data.toList = none) : nuN s = 0 ∧ nuB s = false := by simp [nuN, nuB, h]
theorem nu_good {s : ByteArray} {n : Nat} (h : nuF s.data.toList = some n) : nuN s = (n : Int) ∧ nuB s = true := by simp [nuN, nuB, h]
theorem s_l01Number (s : ByteArray) (w : World) (hs : s.size ≤ 20000) :
    Calls Tryd.prog 26 #[.string s] w fun e w' => e = .returned (.tuple #[.int .i64 (nuN s), .bool (nuB s)]) ∧ w = w' := by
  have hl : s.data.toList.length = s.size := by rw [Array.length_toList]; rfl
  by_cases h1 : s.size < 1
  · have HF := Lib.hid (nu_bad (s := s) (by rw [nuF, if_pos (.inl (by omega))]))
    have g1 : decide ((s.size : Int) < 1) = true := decide_eq_true (by omega)
    have g1' : (s.size : Int) < 1 := by omega
    go_enter Tryd.func26, Tryd.ntmps26
    go_wp2
    rw [HF.out.1, HF.out.2]
    go_ret2
    exact ⟨rfl, rfl⟩
  by_cases h2 : 18 < s.size
  · have HF := Lib.hid (nu_bad (s := s) (by rw [nuF, if_pos (.inr (.inl (by omega)))]))
    have g1 : decide ((s.size : Int) < 1) = false := decide_eq_false (by omega)
    have g1' : ¬ (s.size : Int) < 1 := by omega
    have g2' : (s.size : Int) > 18 := by omega
    go_enter Tryd.func26, Tryd.ntmps26
    go_wp2
    rw [HF.out.1, HF.out.2]
    go_ret2
    exact ⟨rfl, rfl⟩
  have g1' : ¬ (s.size : Int) < 1 := by omega
  have g2' : ¬ (s.size : Int) > 18 := by omega
  have h0 : 0 < s.size := by omega
  have h00 : s.data.toList.getD 0 0 = s[0] := by
    rw [List.getD, List.getElem?_eq_getElem (by omega)]; rfl
  have h48 : (48 : UInt8).toNat = 48 := rfl
  by_cases hz : s[0] = 48 ∧ 1 < s.size
  · have HF := Lib.hid (nu_bad (s := s) (by rw [nuF, if_pos (.inr (.inr ⟨by rw [h00]; exact hz.1, by omega⟩))]))
    have e1 : s[0].toNat = 48 := by rw [hz.1]; rfl
    have e2 : (s.size : Int) > 1 := by omega
    clear hz h00 h48 hl
    go_enter Tryd.func26, Tryd.ntmps26
    go_wp2
    rw [HF.out.1, HF.out.2]
    go_ret2
    exact ⟨rfl, rfl⟩
  have hF : nuF s.data.toList = nuV 0 s.data.toList := by
    rw [nuF, if_neg]
    rintro (q | q | ⟨q1, q2⟩)
    · omega
    · omega
    · exact hz ⟨by rw [← h00]; exact q1, by omega⟩
  have HF : Hid (nuF s.data.toList = nuV 0 s.data.toList) := hF
  have HZ := Lib.hid hz
  clear hF hz h00
  go_enter Tryd.func26, Tryd.ntmps26
  go_upto_region 1 with fail
  go_cut [23] (fun s23 wx => s23 = .bool false ∧ wx = w)
  case first =>
    by_cases hc : s[0] = 48
    · have e1 : s[0].toNat = 48 := by rw [hc]; rfl
      have e2 : ¬ (s.size : Int) > 1 := fun h => HZ.out ⟨hc, by omega⟩
      clear hc
      go_wp2
      go_meet
      trivial
    · have e1 : ((s[0].toNat : Int) == 48) = false := by
        rw [beq_eq_false_iff_ne]; intro e
        exact hc (UInt8.toNat_inj.1 (by omega))
      clear hc
      go_wp2
      go_meet
      trivial
  case rest =>
    obtain ⟨rfl, rfl⟩ := hcut
    go_wp2
    go_loop [4, 5] (fun n i => ∃ j m : Nat, j ≤ s.size ∧ i = .int .i64 j ∧ n = .int .i64 m ∧ nuV 0 (s.data.toList.take j) = some m) (fun _ i => s.size - (intOf i).toNat)
    case atStart => exact ⟨0, 0, by omega, rfl, rfl, rfl⟩
    case round =>
      obtain ⟨j, m, hj, rfl, rfl, hm⟩ := hrel
      by_cases hlt : j < s.size
      · have hji : (j : Int) < (s.size : Int) := by omega
        by_cases hd : 48 ≤ s[j].toNat ∧ s[j].toNat ≤ 57
        · have hst := nuV_step hm hlt hd
          have hbd := (nuV_bd _ _ _ hst).2
          have hp : 10 ^ (s.data.toList.take (j + 1)).length ≤ 10 ^ 18 := Nat.pow_le_pow_right (by omega) (by rw [List.length_take]; omega)
          have hm18 : m * 10 + (s[j].toNat - 48) < 1000000000000000000 := by omega
          have HST := Lib.hid hst
          obtain ⟨d, hdd⟩ : ∃ d, s[j].toNat = 48 + d := ⟨s[j].toNat - 48, by omega⟩
          have hd9 : d ≤ 9 := by omega
          rw [hdd] at hm18
          have HDD := Lib.hid hdd
          have f1 : ¬ ((s[j].toNat : Int) < 48) := by omega
          have f2 : ¬ ((s[j].toNat : Int) > 57) := by omega
          have w1 : IntKind.u8.wrap ((s[j].toNat : Int) - 48) = (d : Int) := by
            rw [hdd]
            simp only [IntKind.wrap, IntKind.bits, IntKind.signed]
            simp
            omega
          clear hst hbd hp hd hm
          go_wp2
          go_round
          case rel => exact ⟨j + 1, m * 10 + d, by omega, by go_num, by go_num, by have := HST.out; rw [HDD.out, show 48 + d - 48 = d by omega] at this; exact this⟩
          case measure => first | (simp [intOf]; done) | (simp [intOf]; omega)
        · have hb := nuV_bad hm hlt hd
          have HB := Lib.hid (nu_bad (by rw [HF.out, hb]))
          clear hb hm
          by_cases f1 : (s[j].toNat : Int) < 48
          · go_wp2
            rw [HB.out.1, HB.out.2]
            go_ret2
            exact ⟨rfl, rfl⟩
          · have f2 : (s[j].toNat : Int) > 57 := by omega
            go_wp2
            rw [HB.out.1, HB.out.2]
            go_ret2
            exact ⟨rfl, rfl⟩
      · obtain rfl : j = s.size := by omega
        rw [List.take_of_length_le (by omega)] at hm
        have HB := Lib.hid (nu_good (by rw [HF.out, hm]))
        clear hm
        go_wp2
        rw [HB.out.1, HB.out.2]
        go_ret2
        exact ⟨rfl, rfl⟩
end Go.Proofs.YtimfbnjgodbgoaaDoor
