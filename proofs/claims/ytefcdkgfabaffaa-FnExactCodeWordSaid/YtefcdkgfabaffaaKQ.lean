/- CodeWord: the reference's walk; the law. -/
import Derived.Test.YtefcdkgfabaffaaKP
namespace Go.Proofs.Ytefcdkgfabaffaa
open Go.ChangeShapes Go.WideShapes Go.RowKit
set_option linter.unusedVariables false
set_option linter.unusedSimpArgs false
set_option maxHeartbeats 2000000
set_option maxRecDepth 100000
/-- append of a text to bytes of the call's own, at a step of a region that draws its order -/
theorem step_app_str {ops : Array Oper} {o : Oper} {a : Act} {K : Act → World → Prop} {Q : Exit → Act → World → Prop} {E : Prop} (hgd : o.guard = none) (s x : Operand)
    (ho : o.op = .call { callee := .builtin .append, args := #[s, x], argTypes := #[101, 9] })
    (base : Nat) (w : World) (v : Value) (n : Nat) (xs : List Value) (t : ByteArray) (hs : a.eval s = v) (hown : w.ownsRow base 5 1 v n xs)
    (hx : a.eval x = .string t) (hn : n + t.size ≤ 1048576) (hbase : base ≤ w.heap.size)
    (h : ∀ v' w', w'.ownsRow base 5 1 v' (n + t.size) (xs ++ Lib.strCells t) → w.grownBy w' v.ownBlock → K (a.put o.dst v') w') :
    if Region.wanted o (yielded ops a.tmps) = true then Oper.wp Try.prog o a w K Q else E := by
  obtain ⟨i0, hi, hz0, hz1, hz2⟩ := info_parts info_u8
  have hw : Region.wanted o (yielded ops a.tmps) = true := by simp [Region.wanted, hgd]
  rw [if_pos hw]
  obtain ⟨v', w', hr, h2, h3, _⟩ := Lib.run_append_own_string (P := Try.prog) w base 101 9 o.type 5 i0 Try.underlying101 Try.underlying9 hi hz0 hz1 hz2 v n xs hown t (by unfold maxLen; omega) (by omega) hbase
  unfold Oper.wp execOp
  simp only [ho, resolve, invoke, builtin, Sem.run_bind, Sem.run_pure, Result.andThen_ok, List.map_toArray, List.map_cons, List.map_nil, hs, hx, hr]
  exact h v' w' h2 h3
theorem own_nil8 {w : World} {base : Nat} (h : base ≤ w.heap.size) : (w.alloc (.cells #[] 5)).ownsRow base 5 1 (.slice (some ⟨w.heap.size, 0, none⟩) 0 0) ([] : List UInt8).length (u8s []) :=
  World.ownsRow_made w #[] 0 h (by decide) (by simp)
theorem u8s_app (x : List UInt8) (z : ByteArray) : u8s x ++ Lib.strCells z = u8s (x ++ z.data.toList) := by simp [u8s, Lib.strCells]
theorem s_CodeWord (u1 u2 : Value) (a : Co) (s : ByteArray) (w : World) (hs : coSm a) (h1 : InT w u1 a.nx) (h2 : InU w u2 a.ou) (hz : s.size ≤ 1048576) :
    Calls Try.prog 37 #[.agg #[.int .i64 a.st, .int .i64 a.sa, u1, u2], .string s] w fun e w' => e = .returned (.tuple #[.string (cwW a s), .int .i64 (cwC a s)]) ∧ Below w.heap.size w w' := by
  obtain ⟨an, cn, rfl⟩ := inT_sl h1
  obtain ⟨au, cu, rfl⟩ := inU_sl h2
  have hbx := (Below.refl w.heap.size w).alloc (Nat.le_refl _) (.cells #[.int .i64 a.st, .int .i64 a.sa, .slice an a.nx.length cn, .slice au a.ou.length cu] 42)
  have HV := Lib.hid (s_l04Coder w.heap.size 0 _ _ a _ hs (by simp [go_sem]) (by simp [go_sem]) (by simp [go_sem]) (by simp [go_sem]) (inT_below h1 hbx) (inU_below h2 hbx))
  have HW := Lib.hid (fun w => s_l01Ok s w (by unfold maxLen; omega))
  have HBX : Hid (∀ w', Below (w.alloc (.cells #[.int .i64 a.st, .int .i64 a.sa, .slice an a.nx.length cn, .slice au a.ou.length cu] 42)).heap.size (w.alloc (.cells #[.int .i64 a.st, .int .i64 a.sa, .slice an a.nx.length cn, .slice au a.ou.length cu] 42)) w' → Below w.heap.size w w') := fun w' h => below_box h
  have hqb := fun q => below_drewN (Below.refl (w.alloc (.cells #[.int .i64 a.st, .int .i64 a.sa, .slice an a.nx.length cn, .slice au a.ou.length cu] 42)).heap.size (w.alloc (.cells #[.int .i64 a.st, .int .i64 a.sa, .slice an a.nx.length cn, .slice au a.ou.length cu] 42))) q
  have HQB := Lib.hid hqb
  have HI1 := Lib.hid (inT_below h1 hbx)
  have HI2 := Lib.hid (inU_below h2 hbx)
  clear h1 h2 hs hbx hqb
  cases hco : coOk a
  · have e1 : cwW a s = ⟨#[]⟩ := by rw [cwW, hco]; simp
    have e2 : cwC a s = 1 := by rw [cwC, hco]; simp
    rw [e1, e2]
    rw [hco] at HV
    clear e1 e2 hco HI1 HI2 HW
    go_enter Try.func37, Try.ntmps37
    go_wp2_with fail
    refine (HV.out).mono ?_
    rintro e w2 ⟨rfl, q2, rfl⟩
    have BF := HBX.out _ (HQB.out q2)
    go_wp2
    go_ret2
    exact ⟨rfl, BF⟩
  · rw [hco] at HV
    cases hv : validB s
    · have e1 : cwW a s = ⟨#[]⟩ := by rw [cwW, hv]; simp
      have e2 : cwC a s = 1 := by rw [cwC, hv]; simp
      rw [e1, e2]
      rw [hv] at HW
      clear e1 e2 hco hv HI1 HI2
      go_enter Try.func37, Try.ntmps37
      go_wp2_with fail
      refine (HV.out).mono ?_
      rintro e w2 ⟨rfl, q2, rfl⟩
      have BF := HBX.out _ (HQB.out q2)
      go_wp2_with fail
      refine (HW.out _).mono ?_
      rintro e w3 ⟨rfl, rfl⟩
      go_wp2
      go_ret2
      exact ⟨rfl, BF⟩
    · rw [hv] at HW
      have HQ := Lib.hid (cw_cases hco hv)
      obtain ⟨f1, f2, f3, f4, f5, f6⟩ := coOk_facts hco
      have HBD := Lib.hid (cwT_bd hco hv)
      have HLI := Lib.hid (fun k hk => @lI_ok s k hv hk)
      have HNX := Lib.hid f5
      have HOX := Lib.hid f6
      have HOL : Hid (a.ou.length = a.nx.length) := by show _ = _; omega
      have h2000 : s.size ≤ 2000 := validB_le hv
      have HT0 : Hid (cwT a s 0 = (a.sa, [])) := rfl
      have HTS : Hid (∀ k, cwT a s (k + 1) = ((tA a.nx (cwT a s k).1.toNat).getD (lI s k) 0, (cwT a s k).2 ++ ((uA a.ou (cwT a s k).1.toNat).getD (lI s k) ⟨#[]⟩).data.toList)) := fun k => rfl
      generalize cwW a s = r1 at *
      generalize cwC a s = r2 at *
      generalize cwT a s = T at *
      clear hco hv f1 f2 f3 f4 f5 f6
      go_enter Try.func37, Try.ntmps37
      go_wp2_with fail
      refine (HV.out).mono ?_
      rintro e w2 ⟨rfl, q2, rfl⟩
      have hb2 := HQB.out q2
      go_wp2_with fail
      refine (HW.out _).mono ?_
      rintro e w3 ⟨rfl, rfl⟩
      have HB2 := Lib.hid (HBX.out _ hb2)
      have HJ1 := Lib.hid (inT_below HI1.out hb2)
      have HJ2 := Lib.hid (inU_below HI2.out hb2)
      have c1 : ((w.alloc (.cells #[.int .i64 a.st, .int .i64 a.sa, .slice an a.nx.length cn, .slice au a.ou.length cu] 42)).drewN q2).cell? ⟨w.heap.size, 1, none⟩ = some (.int .i64 a.sa) := by simp [go_sem]
      have c2 : ((w.alloc (.cells #[.int .i64 a.st, .int .i64 a.sa, .slice an a.nx.length cn, .slice au a.ou.length cu] 42)).drewN q2).cell? ⟨w.heap.size, 2, none⟩ = some (.slice an a.nx.length cn) := by simp [go_sem]
      have c3 : ((w.alloc (.cells #[.int .i64 a.st, .int .i64 a.sa, .slice an a.nx.length cn, .slice au a.ou.length cu] 42)).drewN q2).cell? ⟨w.heap.size, 3, none⟩ = some (.slice au a.ou.length cu) := by simp [go_sem]
      clear hb2 HBX HI1 HI2 HQB HV
      generalize (w.alloc (.cells #[.int .i64 a.st, .int .i64 a.sa, .slice an a.nx.length cn, .slice au a.ou.length cu] 42)).drewN q2 = w2 at *
      have hsz0 : w.heap.size < w2.heap.size := World.block_lt_of_cell? _ _ c1
      go_wp2
      go_loopw [6, 7, 8] (fun st o i wr => Below w2.heap.size w2 wr ∧ ∃ k : Nat, k ≤ s.size ∧ i = .int .i64 k ∧ st = .int .i64 (T k).1 ∧ wr.ownsRow w2.heap.size 5 1 o (T k).2.length (u8s (T k).2)) (fun _ _ i _ => s.size - (intOf i).toNat)
      case atStart => exact ⟨(Below.refl _ _).alloc (Nat.le_refl _) _, 0, by omega, rfl, by rw [HT0.out], by rw [HT0.out]; exact own_nil8 (Nat.le_refl _)⟩
      case round =>
        obtain ⟨hb, k, hk, rfl, rfl, ho⟩ := hrel
        have HB := Lib.hid hb
        have HO := Lib.hid ho
        have hsz1 : w2.heap.size ≤ wr.heap.size := hb.size
        by_cases hlt : k < s.size
        · have hin : ((k : Nat) : Int) < s.size := by omega
          obtain ⟨b1, b2, b3⟩ := HBD.out k hk
          obtain ⟨hc4, hcv⟩ := HLI.out k hlt
          obtain ⟨c, hc⟩ : ∃ c, lI s k = c := ⟨_, rfl⟩
          have HEV := Lib.hid (HTS.out k)
          rw [hc] at hc4 hcv HEV
          obtain ⟨p, hp⟩ := Int.eq_ofNat_of_zero_le b1
          rw [hp] at HEV b2 ⊢
          simp only [Int.toNat_natCast] at HEV
          have hpn : p < a.nx.length := by omega
          have hpI : (p : Int) < a.nx.length := b2
          have hol := HOL.out
          have hpU : (p : Int) < a.ou.length := by omega
          have hci : (c : Int) < 4 := by omega
          have hx0 : (s[k].toNat : Int) = 97 + (c : Int) := by omega
          have HLT := Lib.hid (fun w => s_l04Letter (97 + (c : Int)) c w rfl hc4)
          obtain ⟨bt, ot, rfl, hlt0, hall⟩ := inU_all HJ2.out (by omega)
          obtain ⟨rp, cp, hcp, hip⟩ := hall p (by omega)
          have hoo := HOX.out p (by omega)
          obtain ⟨gp, fp, rfl, hlt1, hvp⟩ := inS_at hip (show c < (uA a.ou p).length by omega)
          rw [hoo.1] at hcp
          obtain ⟨bm, om, rfl, hltm, hall2⟩ := inT_all HJ1.out (by omega)
          obtain ⟨rm, cm, hcm, him⟩ := hall2 p hpn
          have hn := HNX.out p hpn
          obtain ⟨gm, fm, rfl, hlt3, hvm⟩ := inI_at him (show c < (tA a.nx p).length by have := hn.1; omega)
          rw [hn.1] at hcm
          have h6 := (hoo.2 c hc4).1
          have d2 := cell_later hb c2
          have d3 := cell_later hb c3
          have hcp := cell_later hb hcp
          have hvp := cell_later hb hvp
          have hcm := cell_later hb hcm
          have hvm := cell_later hb hvm
          have lt2 : w.heap.size < wr.heap.size := by omega
          have ltm : bm < wr.heap.size := by omega
          have lt3 : gm < wr.heap.size := by omega
          have HB3 : Hid ((T k).2.length ≤ 6 * k) := b3
          have hbsz : (T k).2.length + ((uA a.ou p).getD c ⟨#[]⟩).size ≤ 1048576 := by omega
          clear hall hip hall2 him hn hoo b1 b3 hc hcv hp hb hol h6
          generalize (T k).2 = bs at *
          generalize (uA a.ou p).getD c ⟨#[]⟩ = z at *
          generalize (tA a.nx p).getD c 0 = y at *
          go_wp2
          go_region_held3 (fun w' => w'.cell? ⟨w.heap.size, 3, none⟩ = some (.slice (some ⟨bt, ot, none⟩) a.ou.length cu) ∧ w'.cell? ⟨bt, ot + p, none⟩ = some (.slice (some ⟨gp, fp, none⟩) 4 cp) ∧ w'.cell? ⟨gp, fp + c, none⟩ = some (.string z))
            (first | go_keep | (go_split_ands; refine ⟨?_, ?_, ?_⟩ <;> (rw [hb7.cell (by first | (simp; done) | (simp; omega))]; assumption)))
            (first | (go_at_call 92; refine (HLT.out _).mono ?_; rintro e w1 ⟨rfl, rfl⟩) | (refine step_app_str (by rfl) _ _ (by rfl) w2.heap.size _ u7 bs.length (u8s bs) z (by rfl) (by first | exact ho | exact ownsRow_drew ho | exact ownsRow_drew (ownsRow_drew ho)) (by rfl) (by omega) (by simp; omega) ?_; intro v' w4 ho4 hgr4; have hb7 : Below w2.heap.size _ w4 := below_of_grown hgr4 (by simp; omega) (fun k hk => (ho.lt k hk).1)))
          have HO4 := Lib.hid ho4
          have e2 : w4.cell? ⟨w.heap.size, 2, none⟩ = some (.slice (some ⟨bm, om, none⟩) a.nx.length cn) := by rw [hb7.cell (by simpa using hsz0)]; simpa using d2
          have ecm : w4.cell? ⟨bm, om + p, none⟩ = some (.slice (some ⟨gm, fm, none⟩) 4 cm) := by rw [hb7.cell (by simpa using hltm)]; simpa using hcm
          have evm : w4.cell? ⟨gm, fm + c, none⟩ = some (.int .i64 y) := by rw [hb7.cell (by simpa using hlt3)]; simpa using hvm
          have HB7 : Hid (Below w2.heap.size w2 w4) := by
            refine HB.out.trans (Below.trans ?_ hb7)
            first | exact (Below.refl _ _).drew | exact (Below.refl _ _).drew.drew | exact Below.refl _ _
          clear hb7 hgr4 ho4 hcm hvm hcp hvp d2 d3 ho
          go_wp2
          go_big_quiet ((go_at_call 92; exact (HLT.out _).mono (fun e w'' h => ⟨h.1, _, h.2.symm⟩)))
          go_wp2
          go_roundw
          case rel => exact ⟨below_drewN HB7.out nq, k + 1, by omega, by go_num, by rw [HEV.out], by rw [HEV.out]; have := ownsRow_drewN HO4.out nq; rw [u8s_app] at this; simpa using this⟩
          case measure => first | (simp [intOf]; done) | (simp [intOf]; omega)
        · have ek : k = s.size := by omega
          subst ek
          have hk' : ¬ (s.size : Int) < s.size := by omega
          have hcv := conv_any ho
          obtain ⟨ar, cr, rfl, -, -⟩ := owns_sl3 ho
          have BF := HB2.out.trans (hb.mono HB2.out.size)
          have HBF := Lib.hid BF
          clear hb BF ho
          rcases HQ.out with ⟨hl, e1, e2⟩ | ⟨hl, e1, e2⟩
          · subst e1
            subst e2
            have hl1 : decide ((2000 : Int) < ((T s.size).2.length : Int)) = false := by rw [decide_eq_false_iff_not]; omega
            generalize hbs : (T s.size).2 = bs at *
            go_wp2
            go_ret2
            exact ⟨by subst hbs; rfl, HBF.out⟩
          · subst e1
            subst e2
            have hl1 : decide ((2000 : Int) < ((T s.size).2.length : Int)) = true := by rw [decide_eq_true_iff]; omega
            generalize hbs : (T s.size).2 = bs at *
            go_wp2
            go_ret2
            exact ⟨rfl, HBF.out⟩
theorem walk_FnExactCodeWord (v0 : Value) (a0 : Co) (t1 : ByteArray) (w : World) (h0 : InCo w v0 a0) (h0b : a0.nx.length ≤ 9223372036854775807 ∧ ∀ r ∈ a0.nx, r.length ≤ 9223372036854775807) (h0c : a0.ou.length ≤ 9223372036854775807 ∧ (∀ r ∈ a0.ou, r.length ≤ 9223372036854775807) ∧ ∀ r ∈ a0.ou, ∀ x ∈ r, x.size ≤ 9223372036854775807) (h1 : t1.size ≤ 9223372036854775807) :
    Calls Try.prog 9 #[v0, .string t1] w fun e w' => e = .returned (.bool true) ∧ Below w.heap.size w w' := by
  obtain ⟨p0a, p0b, rfl, im0, jm0⟩ := h0
  have hbx := ((Below.refl w.heap.size w).alloc (by first | exact Nat.le_refl _ | (simp; done) | (simp; omega)) (.cells #[.int .i64 a0.st, .int .i64 a0.sa, p0a, p0b] 39))
  have b0_0 : (w.alloc (.cells #[.int .i64 a0.st, .int .i64 a0.sa, p0a, p0b] 39)).cell? ⟨w.heap.size, 0, none⟩ = some (.int .i64 a0.st) := by simp [go_sem]
  have b0_1 : (w.alloc (.cells #[.int .i64 a0.st, .int .i64 a0.sa, p0a, p0b] 39)).cell? ⟨w.heap.size, 1, none⟩ = some (.int .i64 a0.sa) := by simp [go_sem]
  have b0_2 : (w.alloc (.cells #[.int .i64 a0.st, .int .i64 a0.sa, p0a, p0b] 39)).cell? ⟨w.heap.size, 2, none⟩ = some (p0a) := by simp [go_sem]
  have b0_3 : (w.alloc (.cells #[.int .i64 a0.st, .int .i64 a0.sa, p0a, p0b] 39)).cell? ⟨w.heap.size, 3, none⟩ = some (p0b) := by simp [go_sem]
  have m0_0 := inT_below im0 hbx
  have m0_1 := inU_below jm0 hbx
  have HBX : Hid (∀ w', Below (w.alloc (.cells #[.int .i64 a0.st, .int .i64 a0.sa, p0a, p0b] 39)).heap.size (w.alloc (.cells #[.int .i64 a0.st, .int .i64 a0.sa, p0a, p0b] 39)) w' → Below w.heap.size w w') := fun w' h => (below_box h)
  clear hbx im0 jm0
  rcases Nat.lt_or_ge 1048576 t1.size with hz1 | hz1
  · have hg1 : decide ((1048576 : Int) < (t1.size : Int)) = true := by rw [decide_eq_true_iff]; omega
    go_enter Try.func9, Try.ntmps9
    clear b0_0 b0_1 b0_2 b0_3 m0_0 m0_1
    go_wp2
    go_ret
    exact ⟨rfl, HBX.out _ (Below.refl _ _)⟩
  have hg1 : decide ((1048576 : Int) < (t1.size : Int)) = false := by rw [decide_eq_false_iff_not]; omega
  go_enter Try.func9, Try.ntmps9
  go_wp2_with fail
  refine (l_szCoder _ _ a0 1048576 _ (by omega) m0_0 m0_1 h0b.1 h0b.2 h0c.1 h0c.2.1 h0c.2.2).mono ?_
  rintro e w1 ⟨hb1, rfl | ⟨q1, rfl, hq1, hs0⟩⟩
  · have hbb := HBX.out _ hb1
    clear hb1 b0_0 b0_1 b0_2 b0_3 m0_0 m0_1 
    go_wp2
    go_ret
    exact ⟨rfl, hbb⟩
  have B1 := hb1
  clear hb1
  have HSM0 := Lib.hid hs0
  clear hs0
  clear h0b h0c
  have c0_0 := cell_later B1 b0_0
  have c0_1 := cell_later B1 b0_1
  have c0_2 := cell_later B1 b0_2
  have c0_3 := cell_later B1 b0_3
  have k0_0 := inT_below m0_0 B1
  have k0_1 := inU_below m0_1 B1
  go_wp2_with fail
  refine (l_toCoder2 _ _ a0 _ HSM0.out k0_0 k0_1).mono ?_
  rintro e w2 ⟨s0a, s0b, rfl, sf0a, sf0b, hb2⟩
  clear c0_0 c0_1 c0_2 c0_3 k0_0 k0_1
  have B2 := B1.trans (hb2.mono B1.size)
  clear B1
  clear hb2
  go_wp2_with fail
  refine (s_CodeWord _ _ a0 t1 _ HSM0.out sf0a sf0b hz1 ).mono ?_
  rintro e w3 ⟨rfl, hb3⟩
  clear sf0a sf0b
  have B3 := B2.trans (hb3.mono B2.size)
  clear B2
  clear hb3
  have c0_0 := cell_later B3 b0_0
  have c0_1 := cell_later B3 b0_1
  have c0_2 := cell_later B3 b0_2
  have c0_3 := cell_later B3 b0_3
  have k0_0 := inT_below m0_0 B3
  have k0_1 := inU_below m0_1 B3
  go_wp2_with fail
  refine (l_toCoder2 _ _ a0 _ HSM0.out k0_0 k0_1).mono ?_
  rintro e w4 ⟨x0a, x0b, rfl, xf0a, xf0b, hb4⟩
  clear c0_0 c0_1 c0_2 c0_3 k0_0 k0_1
  have B4 := B3.trans (hb4.mono B3.size)
  clear B3
  clear hb4
  have al := (Below.refl _ w4).alloc (Nat.le_refl _) (.cells #[.int .i64 a0.st, .int .i64 a0.sa, .slice (some ⟨x0a, 0, none⟩) a0.nx.length a0.nx.length, .slice (some ⟨x0b, 0, none⟩) a0.ou.length a0.ou.length] 42)
  have xf0a' := inT_below xf0a al
  clear xf0a
  have xf0a := xf0a'
  clear xf0a'
  have xf0b' := inU_below xf0b al
  clear xf0b
  have xf0b := xf0b'
  clear xf0b'
  have Bq := B4.alloc B4.size (.cells #[.int .i64 a0.st, .int .i64 a0.sa, .slice (some ⟨x0a, 0, none⟩) a0.nx.length a0.nx.length, .slice (some ⟨x0b, 0, none⟩) a0.ou.length a0.ou.length] 42)
  clear al B4
  have B4 := Bq
  clear Bq
  have z0_0 : (w4.alloc (.cells #[.int .i64 a0.st, .int .i64 a0.sa, .slice (some ⟨x0a, 0, none⟩) a0.nx.length a0.nx.length, .slice (some ⟨x0b, 0, none⟩) a0.ou.length a0.ou.length] 42)).cell? ⟨w4.heap.size, 0, none⟩ = some (.int .i64 a0.st) := by simp [go_sem]
  have z0_1 : (w4.alloc (.cells #[.int .i64 a0.st, .int .i64 a0.sa, .slice (some ⟨x0a, 0, none⟩) a0.nx.length a0.nx.length, .slice (some ⟨x0b, 0, none⟩) a0.ou.length a0.ou.length] 42)).cell? ⟨w4.heap.size, 1, none⟩ = some (.int .i64 a0.sa) := by simp [go_sem]
  have z0_2 : (w4.alloc (.cells #[.int .i64 a0.st, .int .i64 a0.sa, .slice (some ⟨x0a, 0, none⟩) a0.nx.length a0.nx.length, .slice (some ⟨x0b, 0, none⟩) a0.ou.length a0.ou.length] 42)).cell? ⟨w4.heap.size, 2, none⟩ = some (.slice (some ⟨x0a, 0, none⟩) a0.nx.length a0.nx.length) := by simp [go_sem]
  have z0_3 : (w4.alloc (.cells #[.int .i64 a0.st, .int .i64 a0.sa, .slice (some ⟨x0a, 0, none⟩) a0.nx.length a0.nx.length, .slice (some ⟨x0b, 0, none⟩) a0.ou.length a0.ou.length] 42)).cell? ⟨w4.heap.size, 3, none⟩ = some (.slice (some ⟨x0b, 0, none⟩) a0.ou.length a0.ou.length) := by simp [go_sem]
  go_wp2_with fail
  refine (i_CodeWord _ _ a0 t1 _ HSM0.out xf0a xf0b hz1 ).mono ?_
  rintro e w5 ⟨rfl, hb5⟩
  have xf0a' := inT_below xf0a hb5
  clear xf0a
  have xf0a := xf0a'
  clear xf0a'
  have xf0b' := inU_below xf0b hb5
  clear xf0b
  have xf0b := xf0b'
  clear xf0b'
  have z0_0' := cell_later hb5 z0_0
  clear z0_0
  have z0_0 := z0_0'
  clear z0_0'
  have z0_1' := cell_later hb5 z0_1
  clear z0_1
  have z0_1 := z0_1'
  clear z0_1'
  have z0_2' := cell_later hb5 z0_2
  clear z0_2
  have z0_2 := z0_2'
  clear z0_2'
  have z0_3' := cell_later hb5 z0_3
  clear z0_3
  have z0_3 := z0_3'
  clear z0_3'
  have B5 := B4.trans (hb5.mono B4.size)
  clear B4
  clear hb5
  go_wp2
  have c0_0 := cell_later B5 b0_0
  have c0_1 := cell_later B5 b0_1
  have c0_2 := cell_later B5 b0_2
  have c0_3 := cell_later B5 b0_3
  have k0_0 := inT_below m0_0 B5
  have k0_1 := inU_below m0_1 B5
  go_region_held3 (fun w' => Below w5.heap.size w5 w' ∧ w'.cell? ⟨w.heap.size, 0, none⟩ = some (.int .i64 a0.st) ∧ w'.cell? ⟨w.heap.size, 1, none⟩ = some (.int .i64 a0.sa) ∧ w'.cell? ⟨w.heap.size, 2, none⟩ = some (p0a) ∧ w'.cell? ⟨w.heap.size, 3, none⟩ = some (p0b) ∧ w'.cell? ⟨w4.heap.size, 0, none⟩ = some (.int .i64 a0.st) ∧ w'.cell? ⟨w4.heap.size, 1, none⟩ = some (.int .i64 a0.sa) ∧ w'.cell? ⟨w4.heap.size, 2, none⟩ = some (.slice (some ⟨x0a, 0, none⟩) a0.nx.length a0.nx.length) ∧ w'.cell? ⟨w4.heap.size, 3, none⟩ = some (.slice (some ⟨x0b, 0, none⟩) a0.ou.length a0.ou.length) ∧ InT w' (p0a) a0.nx ∧ InU w' (p0b) a0.ou ∧ InT w' (.slice (some ⟨x0a, 0, none⟩) a0.nx.length a0.nx.length) a0.nx ∧ InU w' (.slice (some ⟨x0b, 0, none⟩) a0.ou.length a0.ou.length) a0.ou) ((first | (go_split_ands; (repeat' apply And.intro) <;> first | assumption | exact Below.drew (Below.refl _ _) | exact Below.drew (by assumption) | exact inT_below (by assumption) (Below.drew (Below.refl _ _)) | exact inU_below (by assumption) (Below.drew (Below.refl _ _)) | exact cell_later hA0 (by assumption) | exact inT_below (by assumption) hA0 | exact inU_below (by assumption) hA0 | exact Below.trans ‹Below w5.heap.size w5 _› (hA0.mono (Below.size ‹Below w5.heap.size w5 _›)) | exact cell_later hF0 (by assumption) | exact inT_below (by assumption) hF0 | exact inU_below (by assumption) hF0 | exact Below.trans ‹Below w5.heap.size w5 _› (hF0.mono (Below.size ‹Below w5.heap.size w5 _›)) | (simp; assumption)))) (first | (go_at_call 30; with_reducible refine (l_toCoder2 _ _ a0 _ HSM0.out (by first | assumption | (go_split_ands; assumption)) (by first | assumption | (go_split_ands; assumption))).mono ?_; rintro e wA0 ⟨y0a, y0b, rfl, yf0a, yf0b, hA0⟩) | (go_at_call 32; with_reducible refine (l_eqCoder _ _ _ _ a0 _ HSM0.out (by first | exact xf0a | exact inT_below xf0a (Below.drew (Below.refl _ _)) | exact inT_below xf0a hA0 | exact inT_below (inT_below xf0a hA0) (Below.drew (Below.refl _ _)) | exact inT_below (inT_below xf0a (Below.drew (Below.refl _ _))) hA0 | exact inT_below (inT_below (inT_below xf0a (Below.drew (Below.refl _ _))) hA0) (Below.drew (Below.refl _ _))) (by first | exact xf0b | exact inU_below xf0b (Below.drew (Below.refl _ _)) | exact inU_below xf0b hA0 | exact inU_below (inU_below xf0b hA0) (Below.drew (Below.refl _ _)) | exact inU_below (inU_below xf0b (Below.drew (Below.refl _ _))) hA0 | exact inU_below (inU_below (inU_below xf0b (Below.drew (Below.refl _ _))) hA0) (Below.drew (Below.refl _ _))) (by first | exact yf0a | exact inT_below yf0a (Below.drew (Below.refl _ _))) (by first | exact yf0b | exact inU_below yf0b (Below.drew (Below.refl _ _)))).mono ?_; rintro e wF0 ⟨rfl, hF0⟩))
  rename_i hS
  have BR0 := B5.trans (hS.1.mono B5.size)
  clear c0_0 c0_1 c0_2 c0_3 k0_0 k0_1
  clear hS hA0 hF0 yf0a yf0b z0_0 z0_1 z0_2 z0_3 xf0a xf0b B5
  have BF := HBX.out _ BR0
  clear BR0 b0_0 b0_1 b0_2 b0_3 m0_0 m0_1
  go_wp2
  go_ret
  exact ⟨rfl, BF⟩
end Go.Proofs.Ytefcdkgfabaffaa
