/-
  Walks of container/heap at *waits.ready, and of its methods.
  No condition but sizes.
-/
import Derived.Test.YtkeiphmhckkniaaWtHeapP
import Derived.BigQuiet
import Derived.Deep.QuietTactic
import Derived.Stop.Asserts
namespace Go.Proofs.Ytkeiphmhckkniaa
open Go Go.RowKit

abbrev rdyP (rb : Nat) : Value := .pointer (some ⟨rb, 0, none⟩)
abbrev rdyI (rb : Nat) : Value := .iface 44 (rdyP rb)
theorem rdy_len (rb : Nat) (w : World) : (method 209 44 (rdyP rb) "Len").run Try.prog w = (load ⟨rb, 0, none⟩ >>= fun v => (pure (28, v) : Sem (FuncId × Value))).run Try.prog w := by kernel_rfl
theorem rdy_less (rb : Nat) (w : World) : (method 209 44 (rdyP rb) "Less").run Try.prog w = (load ⟨rb, 0, none⟩ >>= fun v => (pure (83, v) : Sem (FuncId × Value))).run Try.prog w := by kernel_rfl
theorem rdy_swap (rb : Nat) (w : World) : (method 209 44 (rdyP rb) "Swap").run Try.prog w = (load ⟨rb, 0, none⟩ >>= fun v => (pure (87, v) : Sem (FuncId × Value))).run Try.prog w := by kernel_rfl
theorem rdy_push (rb : Nat) (w : World) : (method 209 44 (rdyP rb) "Push").run Try.prog w = .ok (85, rdyP rb) w := by kernel_rfl
theorem rdy_pop (rb : Nat) (w : World) : (method 209 44 (rdyP rb) "Pop").run Try.prog w = .ok (84, rdyP rb) w := by kernel_rfl
theorem islen_any (a : Option Addr) (n c : Nat) (w : World) : Calls Try.prog 28 #[.slice a n c] w fun e w' => e = .returned (.int .i64 (n : Int)) ∧ w = w' := by
  go_enter Try.func28, Try.ntmps28
  go_wp2_with fail
  go_ret
  exact ⟨rfl, rfl⟩
theorem isless_any (b n c i j : Nat) (l : List Int) (w : World) (h : OwnInts w 3 (.slice (some ⟨b, 0, none⟩) n c) l) (hn : n = l.length) (hi : i < n) (hj : j < n) :
    Calls Try.prog 83 #[.slice (some ⟨b, 0, none⟩) n c, .int .i64 (i : Int), .int .i64 (j : Int)] w fun e w' => e = .returned (.bool (decide (l.getD i 0 < l.getD j 0))) ∧ Fr w w' Nil := by
  have q0 := h.cell hn i (by omega)
  have q1 := h.cell hn j (by omega)
  have hi2 : (i : Int) < (n : Int) := by omega
  have hj2 : (j : Int) < (n : Int) := by omega
  clear h hn
  generalize l.getD i 0 = x at *
  generalize l.getD j 0 = y at *
  go_enter Try.func83, Try.ntmps83
  go_wp2_with fail
  go_quiet (fail)
  go_wp2_with fail
  go_ret
  exact ⟨rfl, (Fr.refl w Nil).drewN _⟩
set_option maxHeartbeats 1000000 in
theorem isswap_any (b n c i j : Nat) (l : List Int) (w : World) (h : OwnInts w 3 (.slice (some ⟨b, 0, none⟩) n c) l) (hn : n = l.length) (hi : i < n) (hj : j < n) :
    Calls Try.prog 87 #[.slice (some ⟨b, 0, none⟩) n c, .int .i64 (i : Int), .int .i64 (j : Int)] w fun e w' => e = .returned (.tuple #[]) ∧ OwnInts w' 3 (.slice (some ⟨b, 0, none⟩) n c) (swapI l i j) ∧ Fr w w' (fun k => k = b) := by
  have q0 := h.cell hn i (by omega)
  have q1 := h.cell hn j (by omega)
  have f0 := h.free hn i
  have f1 := h.free hn j
  have hi2 : (i : Int) < (n : Int) := by omega
  have hj2 : (j : Int) < (n : Int) := by omega
  have H := Lib.hid h
  clear h
  generalize hx : l.getD i 0 = x at *
  generalize hy : l.getD j 0 = y at *
  have o1 := H.out.stored i y
  have o2 := H.out.stored j x
  have q2 := o1.cell (by simpa using hn) j (by simp; omega)
  have q3 := o2.cell (by simpa using hn) i (by simp; omega)
  have f2 := o1.free (by simpa using hn) j
  have f3 := o2.free (by simpa using hn) i
  have O1 := Lib.hid (o1.stored j x)
  have O2 := Lib.hid (o2.stored i y)
  have hxx := Lib.hid hx
  have hyy := Lib.hid hy
  clear o1 o2 hx hy hn
  go_enter Try.func87, Try.ntmps87
  go_wp2_with fail
  go_region
  all_goals go_wp2_with fail
  all_goals go_end0
  all_goals (refine ⟨rfl, ?_, ((Fr.store w b i (.int .i64 y)).transS (Fr.store _ b j (.int .i64 x))).drew⟩; unfold swapI; rw [hyy.out, hxx.out]; exact World.ownsRow.drew O1.out)
/-- The heap lies at rb. -/
structure RdAt (w : World) (rb b n c : Nat) (l : List Int) : Prop where
  box : Bk w rb 47 [.slice (some ⟨b, 0, none⟩) n c]
  own : OwnInts w 3 (.slice (some ⟨b, 0, none⟩) n c) l
  ne : b ≠ rb
theorem RdAt.len {w : World} {rb b n c : Nat} {l : List Int} (h : RdAt w rb b n c l) : n = l.length := by rcases h.own.2 with ⟨e, _⟩ | ⟨_, _, _, e, _⟩ <;> simp at e; exact e.2.1
theorem RdAt.to {w w' : World} {rb b n c : Nat} {l l' : List Int} (h : RdAt w rb b n c l) (ho : OwnInts w' 3 (.slice (some ⟨b, 0, none⟩) n c) l') (hf : Fr w w' (fun k => k = b)) : RdAt w' rb b n c l' := ⟨h.box.fr hf (fun e => h.ne e.symm), ho, h.ne⟩
theorem RdAt.fr0 {w w' : World} {rb b n c : Nat} {l : List Int} (h : RdAt w rb b n c l) (hf : Fr w w' Nil) : RdAt w' rb b n c l := ⟨h.box.fr hf (fun e => e), h.own.fr hf (fun _ _ e => e), h.ne⟩
attribute [local go_sem] rdy_len rdy_less rdy_swap rdy_push rdy_pop
def UpRet (rb b n c : Nat) (l : List Int) (w : World) (e : Ending) (w' : World) : Prop := e = .returned (.tuple #[]) ∧ ∃ l', RdAt w' rb b n c l' ∧ l'.Perm l ∧ HeapN l' l'.length ∧ Fr w w' (fun k => k = b)
theorem up_any (rb b n c j : Nat) (l : List Int) (w : World) (h : RdAt w rb b n c l) (hu : HeapUp l j) (hj : j < l.length) (hl : l.length ≤ 100000) :
    Calls Try.prog 42 #[rdyI rb, .int .i64 (j : Int)] w (UpRet rb b n c l w) := by
  have HU := Lib.hid hu
  have H := Lib.hid h
  clear hu h
  go_enter Try.func42, Try.ntmps42
  go_wp2_with fail
  go_loopw [1, 4] (fun vj vi wr => ∃ (j' : Nat) (l' : List Int), j' < l'.length ∧ vj = .int .i64 j' ∧ RdAt wr rb b n c l' ∧ l'.Perm l ∧ HeapUp l' j' ∧ Fr w wr (fun k => k = b)) (fun vj _ _ => (intOf vj).toNat)
  case atStart => exact ⟨j, l, hj, rfl, H.out, .refl _, HU.out, Fr.refl _ _⟩
  case round =>
    obtain ⟨j', l', hj', rfl, hrd, hp, hu, hf⟩ := hrel
    have HRD := Lib.hid hrd
    have HP := Lib.hid hp
    have HUP := Lib.hid hu
    have HF := Lib.hid hf
    have q0 := hrd.box.cell 0
    have HLEN := Lib.hid hrd.len
    have HLN := Lib.hid hp.length_eq
    clear hrd hp hu hf
    rcases Nat.eq_zero_or_pos j' with rfl | h0
    · go_wp2_with fail
      go_end0
      exact ⟨rfl, l', HRD.out, HP.out, HUP.out.done (.inl rfl), HF.out⟩
    · obtain ⟨p, rfl⟩ : ∃ p, j' = p + 1 := ⟨j' - 1, by omega⟩
      have hpl : p + 1 < 100000 := by have := HLN.out; omega
      go_wp2_with fail
      refine (isless_any b n c (p + 1) (p / 2) l' wr HRD.out.own HRD.out.len (by have := HLEN.out; omega) (by have := HLEN.out; omega)).mono ?_
      rintro e w1 ⟨rfl, hf1⟩
      have HF1 := Lib.hid (HF.out.trans0 hf1)
      have HRD1 := Lib.hid (HRD.out.fr0 hf1)
      have q0 := HRD1.out.box.cell 0
      clear hf1
      obtain ⟨d, HD⟩ : ∃ d, Hid (decide (l'.getD (p + 1) 0 < l'.getD (p / 2) 0) = d) := ⟨_, Lib.hid rfl⟩
      rw [HD.out]
      cases d with
      | true =>
        have hlt := of_decide_eq_true HD.out
        have HST := Lib.hid (HUP.out.step hj' h0 hlt)
        clear hlt
        go_wp2_with fail
        refine (isswap_any b n c (p / 2) (p + 1) l' w1 HRD1.out.own HRD1.out.len (by have := HLEN.out; omega) (by have := HLEN.out; omega)).mono ?_
        rintro e w2 ⟨rfl, ho2, hf2⟩
        have HF2 := Lib.hid (HF1.out.transS hf2)
        have HRD2 := Lib.hid (HRD1.out.to ho2 hf2)
        have HP2 := Lib.hid ((swapI_perm (l := l') (i := p / 2) (j := p + 1) (by omega) hj').trans HP.out)
        clear ho2 hf2 q0
        go_wp2_with fail
        go_roundw
        case rel => exact ⟨p / 2, _, by rw [swapI_len]; omega, by go_num, HRD2.out, HP2.out, HST.out, HF2.out⟩
        case measure => simp [intOf]; omega
      | false =>
        have hlt := of_decide_eq_false HD.out
        go_wp2_with fail
        go_end0
        exact ⟨rfl, l', HRD1.out, HP.out, HUP.out.done (.inr hlt), HF1.out⟩
def DnRet (rb b n c m : Nat) (l : List Int) (w : World) (e : Ending) (w' : World) : Prop := ∃ v, e = .returned v ∧ ∃ l', RdAt w' rb b n c l' ∧ SameTo l l' m ∧ HeapN l' m ∧ Fr w w' (fun k => k = b)
set_option maxHeartbeats 1000000 in
theorem down_any (rb b n c m : Nat) (l : List Int) (w : World) (h : RdAt w rb b n c l) (hu : HeapDn l m 0) (hm : m ≤ l.length) (hl : l.length ≤ 100000) :
    Calls Try.prog 43 #[rdyI rb, .int .i64 0, .int .i64 (m : Int)] w (DnRet rb b n c m l w) := by
  have HU := Lib.hid hu
  have H := Lib.hid h
  clear hu h
  go_enter Try.func43, Try.ntmps43
  go_wp2_with fail
  go_loopw [7, 8, 9, 10] (fun vi _ _ _ wr => ∃ (i' : Nat) (l' : List Int), i' ≤ m ∧ vi = .int .i64 i' ∧ RdAt wr rb b n c l' ∧ SameTo l l' m ∧ HeapDn l' m i' ∧ Fr w wr (fun k => k = b)) (fun vi _ _ _ _ => m - (intOf vi).toNat)
  case atStart => exact ⟨0, l, by omega, rfl, H.out, .refl _ _, HU.out, Fr.refl _ _⟩
  case round =>
    obtain ⟨i', l', hi', rfl, hrd, hp, hu, hf⟩ := hrel
    have HRD := Lib.hid hrd
    have HP := Lib.hid hp
    have HDN := Lib.hid hu
    have HF := Lib.hid hf
    have q0 := hrd.box.cell 0
    have HLEN := Lib.hid hrd.len
    have HLN := Lib.hid hp.len
    clear hrd hp hu hf
    have hml : m ≤ 100000 := by omega
    by_cases h1 : 2 * i' + 1 < m
    · by_cases h2 : 2 * i' + 1 + 1 < m
      · go_wp2_with fail
        refine (isless_any b n c (2 * i' + 1 + 1) (2 * i' + 1) l' _ HRD.out.own HRD.out.len (by have := HLEN.out; have := HLN.out; omega) (by have := HLEN.out; have := HLN.out; omega)).mono ?_
        rintro e wa ⟨rfl, hfa⟩
        have HFa := Lib.hid (HF.out.trans0 hfa)
        have HRDa := Lib.hid (HRD.out.fr0 hfa)
        have q0 := HRDa.out.box.cell 0
        clear hfa
        obtain ⟨d1, HD1⟩ : ∃ d, Hid (decide (l'.getD (2 * i' + 1 + 1) 0 < l'.getD (2 * i' + 1) 0) = d) := ⟨_, Lib.hid rfl⟩
        rw [HD1.out]
        cases d1 with
        | true =>
          have HM : Hid (∀ k, 0 < k → k < m → (k - 1) / 2 = i' → l'.getD (2 * i' + 1 + 1) 0 ≤ l'.getD k 0) := fun k k0 hk hp => by
            have hlt := of_decide_eq_true HD1.out
            have : k = 2 * i' + 1 ∨ k = 2 * i' + 1 + 1 := by omega
            rcases this with rfl | rfl <;> omega
          go_wp2_with fail
          refine (isless_any b n c (2 * i' + 1 + 1) i' l' wa HRDa.out.own HRDa.out.len (by have := HLEN.out; have := HLN.out; omega) (by have := HLEN.out; have := HLN.out; omega)).mono ?_
          rintro e wb ⟨rfl, hfb⟩
          have HFb := Lib.hid (HFa.out.trans0 hfb)
          have HRDb := Lib.hid (HRDa.out.fr0 hfb)
          have q0 := HRDb.out.box.cell 0
          clear hfb
          obtain ⟨d, HD⟩ : ∃ d, Hid (decide (l'.getD (2 * i' + 1 + 1) 0 < l'.getD i' 0) = d) := ⟨_, Lib.hid rfl⟩
          rw [HD.out]
          cases d with
          | true =>
            have hlt := of_decide_eq_true HD.out
            have HST := Lib.hid (HDN.out.step (by have := HLN.out; omega) (by omega : 2 * i' + 1 + 1 < m) (by omega) (by omega) hlt HM.out)
            clear hlt
            go_wp2_with fail
            refine (isswap_any b n c i' (2 * i' + 1 + 1) l' wb HRDb.out.own HRDb.out.len (by have := HLEN.out; have := HLN.out; omega) (by have := HLEN.out; have := HLN.out; omega)).mono ?_
            rintro e w2 ⟨rfl, ho2, hf2⟩
            have HF2 := Lib.hid (HFb.out.transS hf2)
            have HRD2 := Lib.hid (HRDb.out.to ho2 hf2)
            have HP2 := Lib.hid (HP.out.swap (i := i') (j := 2 * i' + 1 + 1) (by omega) (by omega) hm)
            clear ho2 hf2 q0
            go_wp2_with fail
            go_roundw
            case rel => exact ⟨2 * i' + 1 + 1, _, by omega, by go_num, HRD2.out, HP2.out, HST.out, HF2.out⟩
            case measure => simp [intOf]; omega
          | false =>
            have hlt := of_decide_eq_false HD.out
            have HST : Hid (HeapN l' m) := HDN.out.done fun k k0 hk hp => by have := HM.out k k0 hk hp; omega
            clear hlt
            go_wp2_with fail
            go_ret
            exact ⟨_, rfl, l', HRDb.out, HP.out, HST.out, HFb.out⟩
        | false =>
          have HM : Hid (∀ k, 0 < k → k < m → (k - 1) / 2 = i' → l'.getD (2 * i' + 1) 0 ≤ l'.getD k 0) := fun k k0 hk hp => by
            have hlt := of_decide_eq_false HD1.out
            have : k = 2 * i' + 1 ∨ k = 2 * i' + 1 + 1 := by omega
            rcases this with rfl | rfl <;> omega
          go_wp2_with fail
          refine (isless_any b n c (2 * i' + 1) i' l' wa HRDa.out.own HRDa.out.len (by have := HLEN.out; have := HLN.out; omega) (by have := HLEN.out; have := HLN.out; omega)).mono ?_
          rintro e wb ⟨rfl, hfb⟩
          have HFb := Lib.hid (HFa.out.trans0 hfb)
          have HRDb := Lib.hid (HRDa.out.fr0 hfb)
          have q0 := HRDb.out.box.cell 0
          clear hfb
          obtain ⟨d, HD⟩ : ∃ d, Hid (decide (l'.getD (2 * i' + 1) 0 < l'.getD i' 0) = d) := ⟨_, Lib.hid rfl⟩
          rw [HD.out]
          cases d with
          | true =>
            have hlt := of_decide_eq_true HD.out
            have HST := Lib.hid (HDN.out.step (by have := HLN.out; omega) (by omega : 2 * i' + 1 < m) (by omega) (by omega) hlt HM.out)
            clear hlt
            go_wp2_with fail
            refine (isswap_any b n c i' (2 * i' + 1) l' wb HRDb.out.own HRDb.out.len (by have := HLEN.out; have := HLN.out; omega) (by have := HLEN.out; have := HLN.out; omega)).mono ?_
            rintro e w2 ⟨rfl, ho2, hf2⟩
            have HF2 := Lib.hid (HFb.out.transS hf2)
            have HRD2 := Lib.hid (HRDb.out.to ho2 hf2)
            have HP2 := Lib.hid (HP.out.swap (i := i') (j := 2 * i' + 1) (by omega) (by omega) hm)
            clear ho2 hf2 q0
            go_wp2_with fail
            go_roundw
            case rel => exact ⟨2 * i' + 1, _, by omega, by go_num, HRD2.out, HP2.out, HST.out, HF2.out⟩
            case measure => simp [intOf]; omega
          | false =>
            have hlt := of_decide_eq_false HD.out
            have HST : Hid (HeapN l' m) := HDN.out.done fun k k0 hk hp => by have := HM.out k k0 hk hp; omega
            clear hlt
            go_wp2_with fail
            go_ret
            exact ⟨_, rfl, l', HRDb.out, HP.out, HST.out, HFb.out⟩
      · have HM : Hid (∀ k, 0 < k → k < m → (k - 1) / 2 = i' → l'.getD (2 * i' + 1) 0 ≤ l'.getD k 0) := fun k k0 hk hp => by
          have : k = 2 * i' + 1 := by omega
          rw [this]; exact Int.le_refl _
        go_wp2_with fail
        refine (isless_any b n c (2 * i' + 1) i' l' wr HRD.out.own HRD.out.len (by have := HLEN.out; have := HLN.out; omega) (by have := HLEN.out; have := HLN.out; omega)).mono ?_
        rintro e wb ⟨rfl, hfb⟩
        have HFb := Lib.hid (HF.out.trans0 hfb)
        have HRDb := Lib.hid (HRD.out.fr0 hfb)
        have q0 := HRDb.out.box.cell 0
        clear hfb
        obtain ⟨d, HD⟩ : ∃ d, Hid (decide (l'.getD (2 * i' + 1) 0 < l'.getD i' 0) = d) := ⟨_, Lib.hid rfl⟩
        rw [HD.out]
        cases d with
        | true =>
          have hlt := of_decide_eq_true HD.out
          have HST := Lib.hid (HDN.out.step (by have := HLN.out; omega) (by omega : 2 * i' + 1 < m) (by omega) (by omega) hlt HM.out)
          clear hlt
          go_wp2_with fail
          refine (isswap_any b n c i' (2 * i' + 1) l' wb HRDb.out.own HRDb.out.len (by have := HLEN.out; have := HLN.out; omega) (by have := HLEN.out; have := HLN.out; omega)).mono ?_
          rintro e w2 ⟨rfl, ho2, hf2⟩
          have HF2 := Lib.hid (HFb.out.transS hf2)
          have HRD2 := Lib.hid (HRDb.out.to ho2 hf2)
          have HP2 := Lib.hid (HP.out.swap (i := i') (j := 2 * i' + 1) (by omega) (by omega) hm)
          clear ho2 hf2 q0
          go_wp2_with fail
          go_roundw
          case rel => exact ⟨2 * i' + 1, _, by omega, by go_num, HRD2.out, HP2.out, HST.out, HF2.out⟩
          case measure => simp [intOf]; omega
        | false =>
          have hlt := of_decide_eq_false HD.out
          have HST : Hid (HeapN l' m) := HDN.out.done fun k k0 hk hp => by have := HM.out k k0 hk hp; omega
          clear hlt
          go_wp2_with fail
          go_ret
          exact ⟨_, rfl, l', HRDb.out, HP.out, HST.out, HFb.out⟩
    · have HST : Hid (HeapN l' m) := HDN.out.done fun k k0 hk hp => by omega
      go_wp2_with fail
      go_ret
      exact ⟨_, rfl, l', HRD.out, HP.out, HST.out, HF.out⟩
end Go.Proofs.Ytkeiphmhckkniaa
