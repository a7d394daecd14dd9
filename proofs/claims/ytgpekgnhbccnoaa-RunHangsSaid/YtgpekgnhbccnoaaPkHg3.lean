/-
  Walk of RunHangs: it answers true.
  No condition.
-/
import Derived.Test.YtgpekgnhbccnoaaPkLk45
import Derived.Test.YtgpekgnhbccnoaaPkHg2
namespace Go.Proofs.Ytgpekgnhbccnoaa
open Go Go.RowKit
attribute [local go_sem ↓] Go.wp_at_zero Go.wp_at_succ

theorem own_ints {w : World} {n : Nat} {v : Value} {xs : List Int} (h : w.ownsRow 0 2 1 v n (xs.map (Value.int .i64))) (hn : n = xs.length) : OwnInts w 2 v xs := by
  subst hn
  exact h
section
variable (lv tv av : Value) (L : List InstrD) (TB args : List Int) (nv : Int) (mm sn : Nat) (w : World)
set_option maxRecDepth 100000 in
set_option maxHeartbeats 16000000 in
theorem hangs_any (h : CodeAt w lv L) (hcap : CapOk lv) (ht : IntsAt w tv TB) (ha : IntsAt w av args) (hmm : mm < 256) (hsn : sn < 256) :
    Calls Try.prog 3 #[lv, tv, .int .i64 nv, av, .int .u8 mm, .int .u8 sn] w fun e w' => e = .returned (.bool true) ∧ Fr w w' Nil := by
  obtain ⟨ig, hig, hgz0, hgz1, hgz2⟩ := info_parts (P := Try.prog) (e := 31) (z := .agg #[.int .u8 0, .int .i64 0, .int .u8 0, .int .i64 0, .bool false, .int .i64 0, .int .i64 0, .int .i64 0, .bool false, .int .i64 0, .int .i64 0, .slice none 0 0, .slice none 0 0]) (size := 13) (bytes := 136) (by kernel_rfl)
  obtain ⟨ib, hib, hz0, hz1, hz2⟩ := info_parts (P := Try.prog) (e := 2) (z := .int .i64 0) (size := 1) (bytes := 8) (by kernel_rfl)
  obtain ⟨l0, lc, rfl⟩ := h.shape
  obtain ⟨t0, tc, rfl⟩ := ht.shape
  obtain ⟨a0, ac, rfl⟩ := ha.shape
  have H := Lib.hid h
  have HT := Lib.hid ht
  have HA := Lib.hid ha
  have HCAP := Lib.hid hcap
  clear h ht ha hcap
  go_enter Try.func3, Try.ntmps3
  go_wp2_with fail
  refine (few_any _ _ _ L TB args nv _ H.out HT.out HA.out).mono ?_
  rintro e w1 ⟨b, rfl, hfew, rfl⟩
  cases b
  · clear hfew
    go_wp2_with fail
    refine (works_any _).mono ?_
    rintro e w9 ⟨rfl, hf⟩
    have HF := Lib.hid hf
    clear hf
    go_wp2_with fail
    go_ret
    exact ⟨rfl, HF.out⟩
  have HFW := Lib.hid (hfew rfl)
  have hL60 := (hfew rfl).1
  have hTB20 := (hfew rfl).2.1
  have hnv40 := (hfew rfl).2.2.1
  have hag40 := (hfew rfl).2.2.2.1
  clear hfew
  have Hb1 : Hid (ig.bytes * L.length ≤ 281474976710656) := by
    have : ig.bytes * L.length ≤ 281474976710656 := by rw [hgz2]; omega
    exact this
  have Hb2 : Hid (L.length ≤ maxLen) := by
    have : L.length ≤ maxLen := by unfold maxLen; omega
    exact this
  go_wp2_with (at_make; refine wpList_make_full _ rfl _ _ 22 rfl 0 31 ig _ 13 Try.underlying22 hig hgz0 hgz1 _ _ _ _ L.length rfl rfl rfl rfl Hb1.out Hb2.out (Nat.zero_le _) ?_; intro w1 hown hgr; have HO := Lib.hid hown; have HF1 := Lib.hid ((Fr.refl w Nil).grown hgr (fun k hk => by cases hk)); clear hown hgr)
  obtain ⟨bo, hbo⟩ : ∃ bo, w.heap.size = bo := ⟨_, rfl⟩
  have HBO := Lib.hid (Nat.le_of_eq hbo)
  rw [hbo] at HO ⊢
  clear hbo
  obtain ⟨cs0, hbk0, _, _, hcl0, _⟩ := bk_of_own HO.out
  have hcs0 : L.length * 13 ≤ cs0.length := Nat.le_of_eq hcl0.symm
  have HL1 : Hid (Lies w w1 [bkT bo 31 cs0]) := Lib.hid ((Lies.nil (Fr.refl w Nil)).add (bkT bo 31 cs0) (S := fun k => k = bo) ⟨hbk0, fun _ => Iff.rfl⟩ (fun k hk => by rw [hk]; exact HBO.out) HF1.out)
  have HCS0 := Lib.hid (OwnCs.zero (w := w) hcs0)
  clear hbk0 hcs0 hcl0 HO HF1 HBO
  go_wp2_with fail
  go_loopw [14] (fun vi wr => ∃ (i : Nat) (cs : List Value), i ≤ L.length ∧ vi = .int .i64 i ∧ OwnCs w L cs i ∧ Lies w wr [bkT bo 31 cs]) (fun vi _ => L.length - (intOf vi).toNat)
  case atStart => exact ⟨0, cs0, by omega, rfl, HCS0.out, HL1.out⟩
  case round =>
    clear HL1 HCS0
    obtain ⟨i, cs, hi, rfl, hcs, h⟩ := hrel
    have HL := Lib.hid h
    have HCS := Lib.hid hcs
    obtain ⟨wo, rfl⟩ : ∃ wo : World, wo = wr := ⟨_, rfl⟩
    clear h hcs
    by_cases hlt : i < L.length
    · obtain ⟨b, off, cap, hlv, hlc⟩ := H.out.form (by omega)
      simp only [Value.slice.injEq, true_and] at hlv
      obtain ⟨rfl, rfl⟩ := hlv
      have hx := List.getElem?_eq_getElem hlt
      have HX := Lib.hid hx
      generalize L[i] = x at hx HX
      obtain ⟨ka, kc, va, vc, hkt, hvt, p0, p1, p2, p3, p4, p5, p6, p7, p8, p9, p10, p11, p12⟩ := (hlc i x hx).cell
      have HKT := Lib.hid hkt
      have HVT := Lib.hid hvt
      have hii : (i : Int) < (L.length : Int) := by omega
      obtain ⟨op, node, mode, tab, row, col, var, dst, eq, fro, upto, key, vals⟩ := x
      simp only at p0 p1 p2 p3 p4 p5 p6 p7 p8 p9 p10 p11 p12 HKT HVT
      have q0 := HL.out.fr.cell p0 fun h => h
      have q1 := HL.out.fr.cell p1 fun h => h
      have q2 := HL.out.fr.cell p2 fun h => h
      have q3 := HL.out.fr.cell p3 fun h => h
      have q4 := HL.out.fr.cell p4 fun h => h
      have q5 := HL.out.fr.cell p5 fun h => h
      have q6 := HL.out.fr.cell p6 fun h => h
      have q7 := HL.out.fr.cell p7 fun h => h
      have q8 := HL.out.fr.cell p8 fun h => h
      have q9 := HL.out.fr.cell p9 fun h => h
      have q10 := HL.out.fr.cell p10 fun h => h
      have q11 := HL.out.fr.cell p11 fun h => h
      have q12 := HL.out.fr.cell p12 fun h => h
      obtain ⟨u0, z0⟩ := (HL.out.bk 0 rfl).has (k := i * 13) (by have := HCS.out.1; omega)
      obtain ⟨u1, z1⟩ := (HL.out.bk 0 rfl).has (k := i * 13 + 1) (by have := HCS.out.1; omega)
      obtain ⟨u2, z2⟩ := (HL.out.bk 0 rfl).has (k := i * 13 + 2) (by have := HCS.out.1; omega)
      obtain ⟨u3, z3⟩ := (HL.out.bk 0 rfl).has (k := i * 13 + 3) (by have := HCS.out.1; omega)
      obtain ⟨u4, z4⟩ := (HL.out.bk 0 rfl).has (k := i * 13 + 4) (by have := HCS.out.1; omega)
      obtain ⟨u5, z5⟩ := (HL.out.bk 0 rfl).has (k := i * 13 + 5) (by have := HCS.out.1; omega)
      obtain ⟨u6, z6⟩ := (HL.out.bk 0 rfl).has (k := i * 13 + 6) (by have := HCS.out.1; omega)
      obtain ⟨u7, z7⟩ := (HL.out.bk 0 rfl).has (k := i * 13 + 7) (by have := HCS.out.1; omega)
      obtain ⟨u8, z8⟩ := (HL.out.bk 0 rfl).has (k := i * 13 + 8) (by have := HCS.out.1; omega)
      obtain ⟨u9, z9⟩ := (HL.out.bk 0 rfl).has (k := i * 13 + 9) (by have := HCS.out.1; omega)
      obtain ⟨u10, z10⟩ := (HL.out.bk 0 rfl).has (k := i * 13 + 10) (by have := HCS.out.1; omega)
      obtain ⟨u11, z11⟩ := (HL.out.bk 0 rfl).has (k := i * 13 + 11) (by have := HCS.out.1; omega)
      obtain ⟨u12, z12⟩ := (HL.out.bk 0 rfl).has (k := i * 13 + 12) (by have := HCS.out.1; omega)
      have sf := (HL.out.bk 0 rfl).free
      have HB0 := Lib.hid (HL.out.bk 0 rfl)
      clear hx hlc hkt hvt p0 p1 p2 p3 p4 p5 p6 p7 p8 p9 p10 p11 p12
      go_wp2_with fail
      go_roundw
      case rel => exact ⟨i + 1, _, by omega, by go_num, HCS.out.succ HX.out HKT.out HVT.out, set13_world (P := fun W => Lies w W [bkT bo 31 (setAt cs (i * 13) (InstrD.cs ⟨op, node, mode, tab, row, col, var, dst, eq, fro, upto, key, vals⟩ (.slice ka key.length kc) (.slice va vals.length vc)))]) HB0.out fun w9 hb9 hf9 => HL.out.bkSet 0 rfl hb9 hf9⟩
      case measure => simp [intOf]; omega
    · have hii : ¬ (i : Int) < (L.length : Int) := by omega
      obtain rfl : i = L.length := by omega
      have HAI := Lib.hid (HA.out.fr0 HL.out.fr)
      go_wp2_with (at_builtin; refine wpList_app _ rfl _ _ 24 rfl Try.sltRun (.slice none 0 0) rfl (World.ownsRow_nil _ _ _ _) _ rfl (SlAt.of_ints HAI.out) (ints_one' args) (by omega) ?_)
      rintro g gc w2 h2 h3 h4
      have hown : OwnInts w2 2 (.slice g args.length gc) args := own_ints h2 rfl
      have HL2 : Hid (Lies w w2 [bkT bo 31 cs, owI (.slice g args.length gc) args]) := Lib.hid (HL.out.add (owI (.slice g args.length gc) args) (S := fun k => (Value.slice g args.length gc).ownBlock = some k) ⟨hown, fun _ => Iff.rfl⟩ (fun k hk => by rcases h4 with e | e <;> rw [e] at hk <;> cases hk; exact Nat.le_refl _) ((Fr.refl wo Nil).grown h3 fun k hk => by cases hk))
      clear h2 h3 h4 hown HAI HL
      go_wp2_with fail
      refine (rnew_st _ _ _ TB args nv L w2 (H.out.fr0 HL2.out.fr) HCAP.out (HT.out.fr0 HL2.out.fr) (HA.out.fr0 HL2.out.fr) HFW.out.2.2.2.2 (by omega) (by omega)).mono ?_
      rintro e w3 h1
      have HOC := Lib.hid (fun (W' : World) (hb : Bk W' bo 31 cs) (hf : Fr w W' Nil) => HCS.out.code (cap := L.length) hb hf)
      rcases h1 with ⟨hright, hargs, qa, Ca, rfl, hsta, hqa, e1, e2, e3, e4, e5, hf1⟩ | ⟨hno, rfl, hf1⟩
      rotate_left
      · have HNO := Lib.hid hno
        have HL3 := Lib.hid (HL2.out.fr0 hf1)
        clear hno hf1 HL2
        go_wp2_with fail
        refine (rnew_st _ _ _ TB args nv L w3 (HOC.out _ (HL3.out.bk 0 rfl) HL3.out.fr) (fun a n c e => by cases e; exact Nat.le_refl _) (HT.out.fr0 HL3.out.fr) (HL3.out.rowI 1 rfl).at HFW.out.2.2.2.2 (by omega) (by omega)).mono ?_
        rintro e w4 h2
        rcases h2 with ⟨hr2, ha2, _⟩ | ⟨_, rfl, hf2⟩
        · exact absurd ⟨hr2, ha2⟩ HNO.out
        have HL4 := Lib.hid (HL3.out.fr0 hf2)
        clear hf2 HL3
        go_wp2_with fail
        refine (filled_any HL4.out _ TB HT.out (by omega) mm (mm % 5) (by omega) hmm).mono ?_
        rintro e w5 h3
        rcases h3 with ⟨_, rb, qq, rfl, h3⟩ | ⟨_, rfl, h3⟩
        all_goals
          have HF3 := Lib.hid h3.fr
          clear h3 HL4
          go_wp2_with fail
          refine (works_any _).mono ?_
          rintro e w9 ⟨rfl, hf⟩
          have HF := Lib.hid (HF3.out.trans0 hf)
          clear hf
          go_wp2_with fail
          go_ret
          exact ⟨rfl, HF.out⟩
      obtain ⟨sa, la, ta, va, oa0, L', TB', at', vars, out⟩ := qa
      simp only at e1 e2 e3 e4 e5
      subst e1 e2 e3 e4 e5
      have hnv0 := hright.pos
      have HRT := Lib.hid hright
      have HAR := Lib.hid hargs
      have HL3 := Lib.hid (new_lies HL2.out hsta hqa hf1)
      clear hright hargs hsta hqa hf1 HL2
      go_wp2_with fail
      refine (rnew_st _ _ _ TB' args nv L' w3 (HOC.out _ (HL3.out.bk 0 rfl) HL3.out.fr) (fun a n c e => by cases e; exact Nat.le_refl _) (HT.out.fr0 HL3.out.fr) (HL3.out.rowI 1 rfl).at HFW.out.2.2.2.2 (by omega) (by omega)).mono ?_
      rintro e w4 h2
      rcases h2 with ⟨_, _, qb, Cb, rfl, hstb, hqb, e1, e2, e3, e4, e5, hf2⟩ | ⟨hno, _⟩
      rotate_left
      · exact absurd ⟨HRT.out, HAR.out⟩ hno
      obtain ⟨sb, lb, tb, vb, ob0, L, TB, at', vars, out⟩ := qb
      simp only at e1 e2 e3 e4 e5
      subst e1 e2 e3 e4 e5
      have HL4 := Lib.hid (new_lies HL3.out hstb hqb hf2)
      clear hstb hqb hf2 HL3
      go_wp2_with fail
      refine (filled_any HL4.out _ TB HT.out (by omega) mm (mm % 5) (by omega) hmm).mono ?_
      rintro e w5 h3
      rcases h3 with ⟨hcols, rb, qq, rfl, h3⟩ | ⟨_, rfl, h3⟩
      rotate_left
      · have HF3 := Lib.hid h3.fr
        clear h3 HL4
        go_wp2_with fail
        refine (works_any _).mono ?_
        rintro e w9 ⟨rfl, hf⟩
        have HF := Lib.hid (HF3.out.trans0 hf)
        clear hf
        go_wp2_with fail
        go_ret
        exact ⟨rfl, HF.out⟩
      have HFO := Lib.hid (filled_ok (m := mm % 5) hcols (by omega))
      have HN7 : Hid (None77 (filledM TB (mm % 5))) := Lib.hid (none77_fillT TB (mm % 5) TB.length)
      have HIV := Lib.hid (mach0_inv HRT.out HAR.out HFO.out)
      have HCO := Lib.hid HRT.out.ok
      have hnvn : nv.toNat ≤ 100000 := by omega
      generalize filledM TB (mm % 5) = M0 at *
      have HL5 : Hid (Lies w w5 [bkT bo 31 cs, owI (.slice g args.length gc) args, stT (stOf sa la ta va oa0 L TB (mach0 nv.toNat args M0)), stT (stOf sb lb tb vb ob0 L TB (mach0 nv.toNat args M0)), rowsT rb M0, refM qq M0]) := Lib.hid h3
      clear h3 HL4 hcols HOC
      obtain ⟨s0, hs0⟩ : ∃ s0, s0 = mach0 nv.toNat args M0 := ⟨_, rfl⟩
      have HS0 : Hid (s0.M = M0 ∧ s0.lg = []) := Lib.hid (by rw [hs0]; exact ⟨rfl, rfl⟩)
      rw [← hs0] at HL5 HIV
      have hcl := HCS.out.1
      clear hs0 HCS
      go_wp2_with fail
      go_loopw [23] (fun vi wr => ∃ (i : Nat) (cs2 : List Value), i ≤ L.length ∧ vi = .int .i64 i ∧ L.length * 13 ≤ cs2.length ∧ Lies w wr [bkT bo 31 cs2, owI (.slice g args.length gc) args, stT (stOf sa la ta va oa0 L TB s0), stT (stOf sb lb tb vb ob0 L TB s0), rowsT rb M0, refM qq M0]) (fun vi _ => L.length - (intOf vi).toNat)
      case atStart => exact ⟨0, cs, by omega, rfl, hcl, HL5.out⟩
      case round =>
        clear HL5
        obtain ⟨i, cs2, hi, rfl, hcs, h⟩ := hrel
        have HL := Lib.hid h
        obtain ⟨wo, rfl⟩ : ∃ wo : World, wo = wr := ⟨_, rfl⟩
        clear h
        by_cases hlt : i < L.length
        · have hii : (i : Int) < (L.length : Int) := by omega
          obtain ⟨u0, z0⟩ := (HL.out.bk 0 rfl).has (k := i * 13) (by omega)
          obtain ⟨u1, z1⟩ := (HL.out.bk 0 rfl).has (k := i * 13 + 1) (by omega)
          obtain ⟨u2, z2⟩ := (HL.out.bk 0 rfl).has (k := i * 13 + 2) (by omega)
          obtain ⟨u3, z3⟩ := (HL.out.bk 0 rfl).has (k := i * 13 + 3) (by omega)
          obtain ⟨u4, z4⟩ := (HL.out.bk 0 rfl).has (k := i * 13 + 4) (by omega)
          obtain ⟨u5, z5⟩ := (HL.out.bk 0 rfl).has (k := i * 13 + 5) (by omega)
          obtain ⟨u6, z6⟩ := (HL.out.bk 0 rfl).has (k := i * 13 + 6) (by omega)
          obtain ⟨u7, z7⟩ := (HL.out.bk 0 rfl).has (k := i * 13 + 7) (by omega)
          obtain ⟨u8, z8⟩ := (HL.out.bk 0 rfl).has (k := i * 13 + 8) (by omega)
          obtain ⟨u9, z9⟩ := (HL.out.bk 0 rfl).has (k := i * 13 + 9) (by omega)
          obtain ⟨u10, z10⟩ := (HL.out.bk 0 rfl).has (k := i * 13 + 10) (by omega)
          obtain ⟨u11, z11⟩ := (HL.out.bk 0 rfl).has (k := i * 13 + 11) (by omega)
          obtain ⟨u12, z12⟩ := (HL.out.bk 0 rfl).has (k := i * 13 + 12) (by omega)
          have sf := (HL.out.bk 0 rfl).free
          have HB0 := Lib.hid (HL.out.bk 0 rfl)
          go_wp2_with fail
          go_roundw
          case rel => exact ⟨i + 1, _, by omega, by go_num, by rw [setAt_len]; exact hcs, set13_world (P := fun W => Lies w W [bkT bo 31 (setAt cs2 (i * 13) (InstrD.cs ⟨0, 0, 0, 0, false, 0, 0, 0, false, 0, 0, [], []⟩ (.slice none 0 0) (.slice none 0 0))), owI (.slice g args.length gc) args, stT (stOf sa la ta va oa0 L TB s0), stT (stOf sb lb tb vb ob0 L TB s0), rowsT rb M0, refM qq M0]) HB0.out fun w9 hb9 hf9 => HL.out.bkSet 0 rfl hb9 hf9⟩
          case measure => simp [intOf]; omega
        · have hii : ¬ (i : Int) < (L.length : Int) := by omega
          clear hcs hcl
          go_wp2_with fail
          go_loopw [24] (fun vi wr => ∃ (k : Nat) (xs : List Int), k ≤ args.length ∧ vi = .int .i64 k ∧ xs.length = args.length ∧ Lies w wr [bkT bo 31 cs2, owI (.slice g args.length gc) xs, stT (stOf sa la ta va oa0 L TB s0), stT (stOf sb lb tb vb ob0 L TB s0), rowsT rb M0, refM qq M0]) (fun vi _ => args.length - (intOf vi).toNat)
          case atStart => exact ⟨0, args, by omega, rfl, rfl, HL.out⟩
          case round =>
            clear HL
            obtain ⟨k, xs, hk, rfl, hxl, h⟩ := hrel
            have HL := Lib.hid h
            have HXL := Lib.hid hxl
            clear h hxl
            by_cases hlt2 : k < args.length
            · have hkk : (k : Int) < (args.length : Int) := by omega
              have hor := HL.out.rowI 1 rfl
              obtain ⟨gb, gc2, hv, _⟩ := hor.form (by have := HXL.out; omega)
              simp only [Value.slice.injEq] at hv
              obtain ⟨rfl, -, rfl⟩ := hv
              rw [← HXL.out] at hor
              have y0 := hor.cell rfl k (by have := HXL.out; omega)
              have yf := hor.free rfl k
              have HL9 := Lib.hid (HL.out.setI 1 rfl HXL.out.symm k (-5))
              clear hor
              go_wp2_with fail
              go_roundw
              case rel => exact ⟨k + 1, _, by omega, by go_num, by rw [List.length_set]; exact HXL.out, HL9.out⟩
              case measure => simp [intOf]; omega
            · have hkk : ¬ (k : Int) < (args.length : Int) := by omega
              clear HXL
              go_wp2_with fail
              refine (st_copy HL.out 4 rfl HFO.out.good).mono ?_
              rintro e w6 ⟨rc, rfl, h⟩
              have HL6 : Hid (Lies w w6 [bkT bo 31 cs2, owI (.slice g args.length gc) xs, stT (stOf sa la ta va oa0 L TB s0), stT (stOf sb lb tb vb ob0 L TB s0), rowsT rb M0, refM qq M0, rowsT rc (H77To M0 0)]) := by rw [H77To_zero]; exact Lib.hid h
              clear h HL
              have hml : M0.length = TB.length := by rw [← colsN_len, HFO.out.cols]
              have HML := Lib.hid hml
              clear hml
              go_wp2_with fail
              go_loopw [26] (fun vi wr => ∃ t : Nat, t ≤ TB.length ∧ vi = .int .i64 t ∧ Lies w wr [bkT bo 31 cs2, owI (.slice g args.length gc) xs, stT (stOf sa la ta va oa0 L TB s0), stT (stOf sb lb tb vb ob0 L TB s0), rowsT rb M0, refM qq M0, rowsT rc (H77To M0 t)]) (fun vi _ => TB.length - (intOf vi).toNat)
              case atStart => exact ⟨0, by omega, rfl, HL6.out⟩
              case round =>
                clear HL6
                obtain ⟨t, ht, rfl, h⟩ := hrel
                have HL := Lib.hid h
                obtain ⟨wo, rfl⟩ : ∃ wo : World, wo = wr := ⟨_, rfl⟩
                clear h
                by_cases hlt3 : t < TB.length
                · have htt : (t : Int) < (TB.length : Int) := by omega
                  obtain ⟨tb, toff, tcap, htv, htc⟩ := (HT.out.fr0 HL.out.fr).form (by omega)
                  simp only [Value.slice.injEq, true_and] at htv
                  obtain ⟨rfl, rfl⟩ := htv
                  have hx := List.getElem?_eq_getElem hlt3
                  generalize TB[t] = x at hx
                  have q0 := htc t _ hx
                  have HCA := Lib.hid (cols_at HFO.out.cols hx)
                  have hx16 := (HFO.out.good.at (t : Int)).le
                  obtain ⟨n, hn⟩ : ∃ n, n = (mtab M0 (t : Int)).1 := ⟨_, rfl⟩
                  rw [← hn] at HCA hx16
                  obtain rfl : (n : Int) = x := HCA.out
                  have HPUT := Lib.hid (H77To_put HFO.out.good (t := t) (n := n) (by have := HML.out; omega) hn.symm)
                  have HGT := Lib.hid (H77To_good HFO.out.good HFO.out.few (by decide) t)
                  have Hc1 : Hid (ib.bytes * n ≤ 281474976710656) := by
                    have : ib.bytes * n ≤ 281474976710656 := by rw [hz2]; omega
                    exact this
                  have Hc2 : Hid (n ≤ maxLen) := by
                    have : n ≤ maxLen := by unfold maxLen; omega
                    exact this
                  clear htc hx hn HCA
                  go_wp2_with (at_make; refine wpList_make_full _ rfl _ _ 24 rfl 0 2 ib (.int .i64 0) 1 Try.underlying24 hib hz0 hz1 _ _ _ _ n rfl rfl rfl rfl Hc1.out Hc2.out (Nat.zero_le _) ?_; intro w7 hown hgr; have HO := Lib.hid (own_zeros hown); have HL7 := Lib.hid (HL.out.fr0 ((Fr.refl wo Nil).grown hgr (fun k hk => by cases hk))); clear hown hgr)
                  refine (st_put HL7.out 6 rfl (t : Int) (-77) _ (List.replicate n 0) HGT.out.1 HO.out.at (by simp; omega)).mono ?_
                  rintro e w8 ⟨he, h⟩
                  rw [HPUT.out] at he h
                  subst he
                  have HL8 := Lib.hid h
                  clear h HL7 HL HO q0
                  go_wp2_with fail
                  go_roundw
                  case rel => exact ⟨t + 1, by omega, by go_num, HL8.out⟩
                  case measure => simp [intOf]; omega
                · have htt : ¬ (t : Int) < (TB.length : Int) := by omega
                  obtain rfl : t = TB.length := by omega
                  have h7 := HL.out
                  rw [H77To_all (by have := HML.out; omega)] at h7
                  have HL7 := Lib.hid h7
                  clear h7 HL
                  go_wp2_with fail
                  refine (st_new HL7.out 1000).mono ?_
                  rintro e w7 ⟨ua, rfl, h⟩
                  have HL8 := Lib.hid h
                  clear h HL7
                  go_wp2_with fail
                  refine (st_new HL8.out 1000).mono ?_
                  rintro e w8 ⟨ub, rfl, h⟩
                  have HLS : Hid (Lies w w8 [bkT bo 31 cs2, owI (.slice g args.length gc) xs, stT (stOf sa la ta va oa0 L TB s0), stT (stOf sb lb tb vb ob0 L TB s0), rowsT rb s0.M, refM qq M0, rowsT rc (H77 s0.M), logT ua 1000 s0.lg, logT ub 1000 []]) := by rw [HS0.out.1, HS0.out.2]; exact Lib.hid h
                  have HN0 : Hid (None77 s0.M) := by rw [HS0.out.1]; exact HN7
                  have HLG : Hid (([] : List (Int × Ent)).length = s0.lg.length) := by rw [HS0.out.2]; exact Lib.hid rfl
                  clear h HL8 HS0 HN7
                  obtain ⟨n0, hn0⟩ : ∃ n0, n0 = nv.toNat := ⟨_, rfl⟩
                  rw [← hn0] at HIV HCO hnvn
                  clear hn0
                  go_wp2_with fail
                  go_loopw [29] (fun vi wr => ∃ (i : Nat) (s : MachD) (lg : List (Int × Ent)) (oa ob : Value), i ≤ sn ∧ vi = .int .i64 i ∧ SInv TB n0 L.length (256 + i) i s ∧ None77 s.M ∧ lg.length = s.lg.length ∧ Lies w wr [bkT bo 31 cs2, owI (.slice g args.length gc) xs, stT (stOf sa la ta va oa L TB s), stT (stOf sb lb tb vb ob L TB s), rowsT rb s.M, refM qq M0, rowsT rc (H77 s.M), logT ua 1000 s.lg, logT ub 1000 lg]) (fun vi _ => sn - (intOf vi).toNat)
                  case atStart => exact ⟨0, s0, [], oa0, ob0, by omega, rfl, HIV.out, HN0.out, HLG.out, HLS.out⟩
                  case round =>
                    clear HLS HIV HN0 HLG
                    obtain ⟨i, s, lg, oa, ob, hi2, rfl, hinv, hn7, hlg, h⟩ := hrel
                    have HS := Lib.hid hinv
                    have HL := Lib.hid h
                    have HN7 := Lib.hid hn7
                    have HLG := Lib.hid hlg
                    obtain ⟨wo, rfl⟩ : ∃ wo : World, wo = wr := ⟨_, rfl⟩
                    clear hinv h hn7 hlg
                    by_cases hlt4 : i < sn
                    · have hii2 : (i : Int) < (sn : Int) := by omega
                      have HN := Lib.hid (at_get HS.out.at')
                      have HFa := Lib.hid (stOf_F (sb := sa) (lv := la) (tv := ta) (vv := va) (ov := oa) HS.out HCO.out HFW.out.2.2.2.2 hnvn (by omega))
                      have HFb := Lib.hid (stOf_F (sb := sb) (lv := lb) (tv := tb) (vv := vb) (ov := ob) HS.out HCO.out HFW.out.2.2.2.2 hnvn (by omega))
                      obtain ⟨x, hx⟩ : ∃ x, x = nextP (L.getD s.at' default) s.vars := ⟨_, rfl⟩
                      have HX := Lib.hid hx
                      have hk6 := nextP_kinds (n := L.getD s.at' default) s.vars
                      rw [← hx] at hk6
                      have HNX := Lib.hid (fun (W : World) (h : Lies w W [bkT bo 31 cs2, owI (.slice g args.length gc) xs, stT (stOf sa la ta va oa L TB s), stT (stOf sb lb tb vb ob L TB s), rowsT rb s.M, refM qq M0, rowsT rc (H77 s.M), logT ua 1000 s.lg, logT ub 1000 lg]) => by have h9 := next_any _ n0 _ W (h.stR 2 rfl) HFa.out HN.out; rw [show nextP (L.getD s.at' default) (stOf sa la ta va oa L TB s).vars = x from hx.symm] at h9; exact h9)
                      clear hx
                      obtain ⟨xk, xt, xr, xy, xm, xto, xwr⟩ := x
                      simp only [WantD.val] at HNX
                      simp only at hk6
                      go_wp2_with fail
                      refine (HNX.out _ HL.out).mono ?_
                      rintro e u1 ⟨rfl, hf⟩
                      have HL1 := Lib.hid (HL.out.fr0 hf)
                      clear hf
                      have HLX : Hid (Lies w (u1.alloc (.cells #[.int .u8 xk, .int .i64 xt, .bool xr, .int .i64 xy, .int .u8 xm, .bool xto, .bool xwr] 47)) [bkT bo 31 cs2, owI (.slice g args.length gc) xs, stT (stOf sa la ta va oa L TB s), stT (stOf sb lb tb vb ob L TB s), rowsT rb s.M, refM qq M0, rowsT rc (H77 s.M), logT ua 1000 s.lg, logT ub 1000 lg, bkT u1.heap.size 47 (#[.int .u8 xk, .int .i64 xt, .bool xr, .int .i64 xy, .int .u8 xm, .bool xto, .bool xwr] : Array Value).toList]) := HL1.out.newBk 47 #[.int .u8 xk, .int .i64 xt, .bool xr, .int .i64 xy, .int .u8 xm, .bool xto, .bool xwr]
                      clear HL1
                      go_upto_region 33 with (fail)
                      have x0 := (HLX.out.bk 9 rfl).cell 0
                      have x1 := (HLX.out.bk 9 rfl).cell 1
                      have x2 := (HLX.out.bk 9 rfl).cell 2
                      have x3 := (HLX.out.bk 9 rfl).cell 3
                      have x4 := (HLX.out.bk 9 rfl).cell 4
                      have x5 := (HLX.out.bk 9 rfl).cell 5
                      have x6 := (HLX.out.bk 9 rfl).cell 6
                      simp only [List.getElem?_cons_zero, List.getElem?_cons_succ] at x0 x1 x2 x3 x4 x5 x6
                      by_cases h77 : xto = true ∧ xr = true ∧ xy = -77
                      · obtain ⟨rfl, rfl, rfl⟩ := h77
                        go_wp2_with fail
                        refine (works_any _).mono ?_
                        rintro e w9 ⟨rfl, hf⟩
                        have HF := Lib.hid (HLX.out.fr.trans0 hf)
                        clear hf
                        go_wp2_with fail
                        go_ret
                        exact ⟨rfl, HF.out⟩
                      · have HN77 : Hid (¬ Names77 (L.getD s.at' default) s.vars) := Lib.hid (by unfold Names77; rw [← HX.out]; exact h77)
                        go_cut [158] from 146 to 158 (fun v158 wx => v158 = .bool false ∧ wx = u1.alloc (.cells #[.int .u8 xk, .int .i64 xt, .bool xr, .int .i64 xy, .int .u8 xm, .bool xto, .bool xwr] 47))
                        case first =>
                          have h3 : xto = false ∨ (xto = true ∧ xr = false) ∨ (xto = true ∧ xr = true ∧ (xy == -77) = false) := by
                            cases xto
                            · exact .inl rfl
                            · cases xr
                              · exact .inr (.inl ⟨rfl, rfl⟩)
                              · exact .inr (.inr ⟨rfl, rfl, by rw [beq_eq_false_iff_ne]; exact fun e => h77 ⟨rfl, rfl, e⟩⟩)
                          clear h77
                          rcases h3 with rfl | ⟨rfl, rfl⟩ | ⟨rfl, rfl, d77⟩
                          all_goals
                            go_wp2_with fail
                            go_meet
                            case rel => exact ⟨rfl, rfl⟩
                        case rest =>
                          obtain ⟨rfl, rfl⟩ := hcut
                          clear h77 x0 x1 x2 x3 x4 x5 x6
                          obtain ⟨s2, hs2⟩ : ∃ s2, s2 = (stepM L 1000 1 s).2.2 := ⟨_, rfl⟩
                          have HR := Lib.hid (step_room HS.out HCO.out (most := 1000) (by omega) 1)
                          rw [← HX.out] at HR
                          have HS2 := Lib.hid (step_inv HS.out HCO.out (by omega) 1000 1)
                          have HLO := Lib.hid (And.intro HS.out.lg HS.out.out)
                          obtain ⟨lg2, hst, hlg2, hn72⟩ := step_77 HS.out HCO.out HN7.out HN77.out 1000 1 2 lg HLG.out
                          rw [← hs2] at hst hlg2 hn72 HS2
                          have HST := Lib.hid hst
                          have HLG2 := Lib.hid hlg2
                          have HN72 := Lib.hid hn72
                          have HSE := Lib.hid hs2
                          have HGB := Lib.hid (H77_good HS.out.good HS.out.few (by omega))
                          clear hst hlg2 hn72
                          go_wp2_with fail
                          refine (step_any HLX.out 2 4 7 rfl rfl rfl (by decide) (by decide) (by decide) n0 HFa.out _ HN.out HS.out.good HS.out.cols 1 (by decide) (by have := HLO.out.1; omega) (by have := HLO.out.2; show s.out.length ≤ _; omega)).mono ?_
                          rintro e u3 ⟨he, oa2, h⟩
                          have he2 := he.trans (step_val HR.out.1 HR.out.2)
                          simp only [WantD.val] at he2
                          subst he2
                          have HL4 : Hid (Lies w u3 [bkT bo 31 cs2, owI (.slice g args.length gc) xs, stT (stOf sa la ta va oa2 L TB s2), stT (stOf sb lb tb vb ob L TB s), rowsT rb s2.M, refM qq M0, rowsT rc (H77 s.M), logT ua 1000 s2.lg, logT ub 1000 lg, bkT u1.heap.size 47 (#[.int .u8 xk, .int .i64 xt, .bool xr, .int .i64 xy, .int .u8 xm, .bool xto, .bool xwr] : Array Value).toList]) := by subst hs2; exact Lib.hid h
                          clear h HLX he
                          go_wp2_with fail
                          have HL5 : Hid (Lies w (u3.alloc (.cells #[.int .u8 xk, .int .i64 xt, .bool xr, .int .i64 xy, .int .u8 xm, .bool xto, .bool xwr] 47)) [bkT bo 31 cs2, owI (.slice g args.length gc) xs, stT (stOf sa la ta va oa2 L TB s2), stT (stOf sb lb tb vb ob L TB s), rowsT rb s2.M, refM qq M0, rowsT rc (H77 s.M), logT ua 1000 s2.lg, logT ub 1000 lg, bkT u1.heap.size 47 (#[.int .u8 xk, .int .i64 xt, .bool xr, .int .i64 xy, .int .u8 xm, .bool xto, .bool xwr] : Array Value).toList, bkT u3.heap.size 47 (#[.int .u8 xk, .int .i64 xt, .bool xr, .int .i64 xy, .int .u8 xm, .bool xto, .bool xwr] : Array Value).toList]) := HL4.out.newBk 47 #[.int .u8 xk, .int .i64 xt, .bool xr, .int .i64 xy, .int .u8 xm, .bool xto, .bool xwr]
                          clear HL4
                          refine (step_any HL5.out 3 6 8 rfl rfl rfl (by decide) (by decide) (by decide) n0 HFb.out _ HN.out HGB.out.1 (by rw [H77_colsN]; exact HS.out.cols) 2 (by decide) (by have := HLO.out.1; have := HLG.out; omega) (by have := HLO.out.2; show s.out.length ≤ _; omega)).mono ?_
                          rintro e u4 ⟨he, ob2, h⟩
                          have HSTe : stepM L 1000 2 ⟨s.at', s.vars, s.out, H77 s.M, lg⟩ = _ := HST.out
                          simp only [HSTe] at he h
                          have he2 := he.trans (congrArg Ending.returned (by rw [HR.out.1, HR.out.2] : Value.tuple #[(stepM L 1000 1 s).1.val, .int .i64 (stepM L 1000 1 s).2.1] = .tuple #[WantD.val ⟨xk, xt, xr, xy, xm, xto, xwr⟩, .int .i64 0]))
                          simp only [WantD.val] at he2
                          subst he2
                          have HL6 : Hid (Lies w u4 [bkT bo 31 cs2, owI (.slice g args.length gc) xs, stT (stOf sa la ta va oa2 L TB s2), stT (stOf sb lb tb vb ob2 L TB s2), rowsT rb s2.M, refM qq M0, rowsT rc (H77 s2.M), logT ua 1000 s2.lg, logT ub 1000 lg2, bkT u1.heap.size 47 (#[.int .u8 xk, .int .i64 xt, .bool xr, .int .i64 xy, .int .u8 xm, .bool xto, .bool xwr] : Array Value).toList, bkT u3.heap.size 47 (#[.int .u8 xk, .int .i64 xt, .bool xr, .int .i64 xy, .int .u8 xm, .bool xto, .bool xwr] : Array Value).toList]) := by subst hs2; exact Lib.hid h
                          clear h HL5 hs2 he HSTe
                          have HL7 : Hid (Lies w (u4.alloc (.cells #[.int .u8 xk, .int .i64 xt, .bool xr, .int .i64 xy, .int .u8 xm, .bool xto, .bool xwr] 47)) [bkT bo 31 cs2, owI (.slice g args.length gc) xs, stT (stOf sa la ta va oa2 L TB s2), stT (stOf sb lb tb vb ob2 L TB s2), rowsT rb s2.M, refM qq M0, rowsT rc (H77 s2.M), logT ua 1000 s2.lg, logT ub 1000 lg2, bkT u1.heap.size 47 (#[.int .u8 xk, .int .i64 xt, .bool xr, .int .i64 xy, .int .u8 xm, .bool xto, .bool xwr] : Array Value).toList, bkT u3.heap.size 47 (#[.int .u8 xk, .int .i64 xt, .bool xr, .int .i64 xy, .int .u8 xm, .bool xto, .bool xwr] : Array Value).toList, bkT u4.heap.size 47 (#[.int .u8 xk, .int .i64 xt, .bool xr, .int .i64 xy, .int .u8 xm, .bool xto, .bool xwr] : Array Value).toList]) := HL6.out.newBk 47 #[.int .u8 xk, .int .i64 xt, .bool xr, .int .i64 xy, .int .u8 xm, .bool xto, .bool xwr]
                          clear HL6
                          have a0 := (HL7.out.bk 9 rfl).cell 0
                          have a1 := (HL7.out.bk 9 rfl).cell 1
                          have a2 := (HL7.out.bk 9 rfl).cell 2
                          have a3 := (HL7.out.bk 9 rfl).cell 3
                          have a4 := (HL7.out.bk 9 rfl).cell 4
                          have a5 := (HL7.out.bk 9 rfl).cell 5
                          have a6 := (HL7.out.bk 9 rfl).cell 6
                          have c0 := (HL7.out.bk 10 rfl).cell 0
                          have c1 := (HL7.out.bk 10 rfl).cell 1
                          have c2 := (HL7.out.bk 10 rfl).cell 2
                          have c3 := (HL7.out.bk 10 rfl).cell 3
                          have c4 := (HL7.out.bk 10 rfl).cell 4
                          have c5 := (HL7.out.bk 10 rfl).cell 5
                          have c6 := (HL7.out.bk 10 rfl).cell 6
                          have d0 := (HL7.out.bk 11 rfl).cell 0
                          have d1 := (HL7.out.bk 11 rfl).cell 1
                          have d2 := (HL7.out.bk 11 rfl).cell 2
                          have d3 := (HL7.out.bk 11 rfl).cell 3
                          have d4 := (HL7.out.bk 11 rfl).cell 4
                          have d5 := (HL7.out.bk 11 rfl).cell 5
                          have d6 := (HL7.out.bk 11 rfl).cell 6
                          simp only [List.getElem?_cons_zero, List.getElem?_cons_succ] at a0 a1 a2 a3 a4 a5 a6 c0 c1 c2 c3 c4 c5 c6 d0 d1 d2 d3 d4 d5 d6
                          go_wp2_with fail
                          refine (at_any _ _ (HL7.out.stR 2 rfl)).mono ?_
                          rintro e u5 ⟨rfl, rfl⟩
                          go_wp2_with fail
                          refine (at_any _ _ (HL7.out.stR 3 rfl)).mono ?_
                          rintro e u5 ⟨rfl, rfl⟩
                          clear a0 a1 a2 a3 a4 a5 a6 c0 c1 c2 c3 c4 c5 c6 d0 d1 d2 d3 d4 d5 d6
                          have hvl : s2.vars.length ≤ 1000000 := by have := HS2.out.len; omega
                          have hol : s2.out.length ≤ 1000000 := by have := HS2.out.out; omega
                          go_wp2_with fail
                          refine (vars_any _ _ (HL7.out.stR 2 rfl) hvl).mono ?_
                          rintro e u5 hsr
                          obtain ⟨pa, ca, rfl, hia, hf⟩ := hsr.int
                          have HIA := Lib.hid hia
                          have HL8 := Lib.hid (HL7.out.fr0 hf)
                          clear hsr hia hf HL7
                          go_wp2_with fail
                          refine (vars_any _ _ (HL8.out.stR 3 rfl) hvl).mono ?_
                          rintro e u6 hsr
                          obtain ⟨pb, cb, rfl, hib2, hf⟩ := hsr.int
                          have HIB := Lib.hid hib2
                          have HIA2 := Lib.hid (HIA.out.fr0 hf)
                          have HL9 := Lib.hid (HL8.out.fr0 hf)
                          clear hsr hib2 hf HL8 HIA
                          go_wp2_with fail
                          refine (sameInts_any _ _ _ _ _ HIA2.out HIB.out hvl hvl).mono ?_
                          rintro e u7 ⟨he, hf⟩
                          rw [decide_eq_true rfl] at he
                          subst he
                          have HL10 := Lib.hid (HL9.out.fr0 hf)
                          clear hf HL9 HIA2 HIB
                          go_wp2_with fail
                          refine (out_any _ _ (HL10.out.stR 2 rfl) hol).mono ?_
                          rintro e u8 hsr
                          obtain ⟨pc, cc, rfl, hia, hf⟩ := hsr.int
                          have HIA := Lib.hid hia
                          have HL11 := Lib.hid (HL10.out.fr0 hf)
                          clear hsr hia hf HL10
                          go_wp2_with fail
                          refine (out_any _ _ (HL11.out.stR 3 rfl) hol).mono ?_
                          rintro e u9 hsr
                          obtain ⟨pd, cd, rfl, hib2, hf⟩ := hsr.int
                          have HIB := Lib.hid hib2
                          have HIA2 := Lib.hid (HIA.out.fr0 hf)
                          have HL12 := Lib.hid (HL11.out.fr0 hf)
                          clear hsr hib2 hf HL11 HIA
                          go_wp2_with fail
                          refine (sameInts_any _ _ _ _ _ HIA2.out HIB.out hol hol).mono ?_
                          rintro e u10 ⟨he, hf⟩
                          rw [decide_eq_true rfl] at he
                          subst he
                          have HL13 := Lib.hid (HL12.out.fr0 hf)
                          clear hf HL12 HIA2 HIB
                          have c0 := (HL13.out.bk 10 rfl).cell 0
                          simp only [List.getElem?_cons_zero] at c0
                          rcases hk6 with rfl | hk5
                          · go_wp2_with fail
                            go_roundw
                            case rel => exact ⟨i + 1, s2, lg2, oa2, ob2, by omega, by go_num, HS2.out, HN72.out, HLG2.out, HL13.out.take 9⟩
                            case measure => simp [intOf]; omega
                          · obtain rfl : s2 = s := by rw [HSE.out, step_want (by rw [← HX.out]; show xk ≠ 1; omega)]
                            clear HS2 HSE HR HST
                            rcases (show (xk = 2 ∨ xk = 3 ∨ xk = 4) ∨ xk = 5 ∨ xk = 6 by omega) with hk | hk
                            · have HG : Hid (goes (nextP (L.getD s2.at' default) s2.vars).kind = true) := Lib.hid (by rw [← HX.out]; rcases hk with rfl | rfl | rfl <;> rfl)
                              have HS3 := Lib.hid (HS.out.goes HCO.out (by rw [← HX.out]; exact hk))
                              have hn1 : (xk != 1) = true := by rw [bne_iff_ne]; omega
                              clear hk hk5
                              go_wp2_with fail
                              refine (go_yes HL13.out 2 rfl (stOf_F HS.out HCO.out HFW.out.2.2.2.2 hnvn (by omega)) HN.out HG.out).mono ?_
                              rintro e u11 ⟨rfl, h⟩
                              have HL14 := Lib.hid h
                              clear h HL13
                              go_wp2_with fail
                              refine (go_yes HL14.out 3 rfl (stOf_F HS.out HCO.out HFW.out.2.2.2.2 hnvn (by omega)) HN.out HG.out).mono ?_
                              rintro e u12 ⟨rfl, h⟩
                              have HL15 := Lib.hid h
                              clear h HL14 c0
                              go_wp2_with fail
                              go_roundw
                              case rel => exact ⟨i + 1, _, lg2, oa2, ob2, by omega, by go_num, HS3.out.mono (by omega) (by omega), HN72.out, HLG2.out, HL15.out.take 9⟩
                              case measure => simp [intOf]; omega
                            · have HG : Hid (goes (nextP (L.getD s2.at' default) s2.vars).kind = false) := Lib.hid (by rw [← HX.out]; rcases hk with rfl | rfl <;> rfl)
                              have hn1 : (xk != 1) = true := by rw [bne_iff_ne]; omega
                              clear hk hk5
                              go_wp2_with fail
                              refine (go_no HL13.out 2 rfl (stOf_F HS.out HCO.out HFW.out.2.2.2.2 hnvn (by omega)) HN.out HG.out).mono ?_
                              rintro e u11 ⟨rfl, h⟩
                              have HL14 := Lib.hid h
                              clear h HL13 c0
                              go_wp2_with fail
                              refine (works_any _).mono ?_
                              rintro e w9 ⟨rfl, hf⟩
                              have HF := Lib.hid (HL14.out.fr.trans0 hf)
                              clear hf
                              go_wp2_with fail
                              go_ret
                              exact ⟨rfl, HF.out⟩
                    · obtain rfl : i = sn := by omega
                      go_wp2_with fail
                      refine (works_any _).mono ?_
                      rintro e w9 ⟨rfl, hf⟩
                      have HF := Lib.hid (HL.out.fr.trans0 hf)
                      clear hf
                      go_wp2_with fail
                      go_ret
                      exact ⟨rfl, HF.out⟩
theorem hangs_int (m n : Int) (h : CodeAt w lv L) (hcap : CapOk lv) (ht : IntsAt w tv TB) (ha : IntsAt w av args) (hm : (Lit.int .u8 m).wf = true) (hn : (Lit.int .u8 n).wf = true) :
    Calls Try.prog 3 #[lv, tv, .int .i64 nv, av, .int .u8 m, .int .u8 n] w fun e w' => e = .returned (.bool true) ∧ Fr w w' Nil := by
  have h1 := u8_range hm
  have h2 := u8_range hn
  obtain ⟨mm, rfl⟩ : ∃ mm : Nat, m = (mm : Int) := ⟨m.toNat, by omega⟩
  obtain ⟨sn, rfl⟩ : ∃ sn : Nat, n = (sn : Int) := ⟨n.toNat, by omega⟩
  exact hangs_any lv tv av L TB args nv mm sn w h hcap ht ha (by omega) (by omega)
end
end Go.Proofs.Ytgpekgnhbccnoaa
