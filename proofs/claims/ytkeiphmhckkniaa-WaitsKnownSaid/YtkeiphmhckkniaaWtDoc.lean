/-
  Walks of the document's rings, Ring and Reach.
  No condition but sizes.
-/
import Derived.Test.YtkeiphmhckkniaaWtPts
import Derived.Test.YtkeiphmhckkniaaWtRingP
import Derived.Test.YtkeiphmhckkniaaWtPartsP
namespace Go.Proofs.Ytkeiphmhckkniaa
open Go Go.RowKit

/-- A row that is told, of whatever. -/
def IRet (xs : List Int) (w : World) (e : Ending) (w' : World) : Prop := ∃ v, e = .returned v ∧ IntsAt w' v xs ∧ Fr w w' Nil
def ringF (G : List (List Int)) (s f : Nat) (l : List Nat) (a b : Nat) : List Nat := if l.contains b || !sees G a b then [] else ringsP G s f (l ++ [b]) b
theorem ringsP_succ {G : List (List Int)} {s f : Nat} {l : List Nat} {a : Nat} : ringsP G s (f + 1) l a = firstTo (ringF G s f l a) G.length := by rw [ringsP]; rfl
theorem contains_snoc {l : List Nat} {x b : Nat} : (l ++ [x]).contains b = (l.contains b || decide (x = b)) := by
  rw [Bool.eq_iff_iff, Bool.or_eq_true, List.contains_iff_mem, List.contains_iff_mem, decide_eq_true_eq, List.mem_append, List.mem_singleton]
  exact ⟨fun h => h.imp id fun h => h.symm, fun h => h.imp id fun h => h.symm⟩
theorem own_lies {wr w2 : World} {n : Nat} {l : List Nat} {a2 : Option Addr} {c2 : Nat} (ho : w2.ownsRow 0 3 1 (.slice a2 (n + 1) c2) (n + 1) ((ints l).map (Value.int .i64))) (hl : l.length = n + 1) (hg : wr.grownBy w2 (Value.slice none 0 0).ownBlock)
    (hat : (Value.slice a2 (n + 1) c2).ownBlock = (Value.slice none 0 0).ownBlock ∨ (Value.slice a2 (n + 1) c2).ownBlock = some wr.heap.size) : Lies wr w2 [owT (.slice a2 (n + 1) c2) (ints l)] := by
  have e1 : (ints l).length = n + 1 := by rw [ints_len]; exact hl
  refine (Lies.nil (Fr.refl wr Nil)).addRow (v := .slice a2 (n + 1) c2) (by unfold OwnInts; rw [e1]; exact ho) (fun k hk => ?_) ((Fr.refl wr Nil).grown hg (fun k hk => by cases hk))
  rcases hat with hat | hat
  · rw [hat] at hk; cases hk
  · rw [hat] at hk; cases hk; exact Nat.le_refl _
set_option maxRecDepth 100000 in
set_option maxHeartbeats 2000000 in
theorem rings_any (gv : Value) (G : List (List Int)) (s : Nat) (hl : G.length ≤ 1000) : ∀ (f : Nat) (l : List Nat) (a : Nat) (lv : Value) (w : World), GraphAt w gv G → IntsAt w lv (ints l) → a < G.length → 0 < l.length → l.getD 0 0 = s → l.getD (l.length - 1) 0 = a → l.length + f ≤ 2000 →
    Calls Try.prog 32 #[gv, lv, .int .i64 ((l.length + f : Nat) : Int)] w (IRet (ints (ringsP G s f l a)) w) := by
  intro f
  induction f with
  | zero =>
    intro l a lv w h hv ha h0 hs hlast hsz
    obtain ⟨b, off, cap, rfl, hc⟩ := hv.form (by rw [ints_len]; exact h0)
    have q0 := hc 0 _ (List.getElem?_eq_getElem (by rw [ints_len]; exact h0))
    have q1 := hc (l.length - 1) _ (List.getElem?_eq_getElem (by rw [ints_len]; omega))
    have e0 : (ints l)[0]'(by rw [ints_len]; exact h0) = (s : Int) := by
      have := ints_getD l 0
      rw [List.getD_eq_getElem?_getD, List.getElem?_eq_getElem (by rw [ints_len]; exact h0), hs] at this
      exact this
    have e1 : (ints l)[l.length - 1]'(by rw [ints_len]; omega) = (a : Int) := by
      have := ints_getD l (l.length - 1)
      rw [List.getD_eq_getElem?_getD, List.getElem?_eq_getElem (by rw [ints_len]; omega), hlast] at this
      exact this
    rw [e0] at q0
    rw [e1] at q1
    rw [ints_len] at hv ⊢
    obtain ⟨n, hn⟩ : ∃ n, l.length = n + 1 := ⟨l.length - 1, by omega⟩
    rw [hn] at q1 hv ⊢
    simp only [Nat.add_sub_cancel, Nat.add_zero] at q1 q0 ⊢
    have HV := Lib.hid hv
    have HG := Lib.hid h
    have HN := Lib.hid hn
    have hnl : n ≤ 2000 := by omega
    clear e0 e1 hc hv h hn h0 hs hlast hsz
    cases hsee : sees G a s with
    | true =>
      have HS := Lib.hid hsee
      clear hsee
      go_enter Try.func32, Try.ntmps32
      go_wp2_with fail
      refine (points_any _ G a (s : Int) w HG.out ha (by omega)).mono ?_
      rintro e w1 ⟨rfl, rfl⟩
      have es : (G.getD a []).contains (s : Int) = true := HS.out
      rw [es]
      clear es
      go_wp2_with fail
      go_ret
      refine ⟨_, rfl, ?_, Fr.refl _ _⟩
      unfold ringsP
      rw [if_pos HS.out]
      exact HV.out
    | false =>
      have HS := Lib.hid hsee
      clear hsee
      go_enter Try.func32, Try.ntmps32
      go_wp2_with fail
      refine (points_any _ G a (s : Int) w HG.out ha (by omega)).mono ?_
      rintro e w1 ⟨rfl, rfl⟩
      have es : (G.getD a []).contains (s : Int) = false := HS.out
      rw [es]
      clear es
      go_wp2_with fail
      go_ret
      refine ⟨_, rfl, .inl ⟨rfl, ?_⟩, Fr.refl _ _⟩
      unfold ringsP
      rw [if_neg (by rw [HS.out]; decide)]; rfl
  | succ f ih =>
    intro l a lv w h hv ha h0 hs hlast hsz
    obtain ⟨b, off, cap, rfl, hc⟩ := hv.form (by rw [ints_len]; exact h0)
    have HC : Hid (∀ i, i < l.length → w.cell? ⟨b, off + i, none⟩ = some (.int .i64 ((l.getD i 0 : Nat) : Int))) := fun i hi => by
      rw [hc i _ (List.getElem?_eq_getElem (by rw [ints_len]; exact hi))]
      have := ints_getD l i
      rw [List.getD_eq_getElem?_getD, List.getElem?_eq_getElem (by rw [ints_len]; exact hi)] at this
      simp only [Option.getD_some] at this
      rw [this]
    have q1 := HC.out (l.length - 1) (by omega)
    rw [hlast] at q1
    rw [ints_len] at hv ⊢
    obtain ⟨n, hn⟩ : ∃ n, l.length = n + 1 := ⟨l.length - 1, by omega⟩
    have HN := Lib.hid hn
    rw [hn] at q1 hv ⊢
    simp only [Nat.add_sub_cancel] at q1
    have HV := Lib.hid hv
    have HG := Lib.hid h
    have HS0 := Lib.hid hs
    have hnl : n + f + 2 ≤ 2000 := by omega
    obtain ⟨ga, gcap, rfl⟩ := h.shape
    have IH := Lib.hid ih
    clear hc hv h hn h0 hs hlast hsz ih
    generalize hNN : ((n + 1 + (f + 1) : Nat) : Int) = N
    have h1 : ((n : Int) + 1 == N) = false := by simp; omega
    have HNN := Lib.hid hNN
    clear hNN
    go_enter Try.func32, Try.ntmps32
    go_wp2_with fail
    go_loopw [8] (fun vb wr => ∃ c : Nat, c ≤ G.length ∧ vb = .int .i64 c ∧ (∀ k, k < c → ringF G s f l a k = []) ∧ Fr w wr Nil) (fun vb _ => G.length - (intOf vb).toNat)
    case atStart => exact ⟨0, by omega, rfl, (fun k hk => by omega), Fr.refl _ _⟩
    case round =>
      obtain ⟨c, hcn, rfl, hno, hf⟩ := hrel
      have HNO := Lib.hid hno
      have HF := Lib.hid hf
      clear hno hf q1
      by_cases hlt : c < G.length
      · have hcl : (c : Int) < (G.length : Int) := by omega
        go_wp2_with fail
        go_loop [9, 10] (fun vin vi => ∃ i : Nat, i ≤ n + 1 ∧ vi = .int .i64 i ∧ vin = .bool ((l.take i).contains c)) (fun _ vi => n + 1 - (intOf vi).toNat)
        case atStart => exact ⟨0, by omega, rfl, rfl⟩
        case round =>
          obtain ⟨i, hi, rfl, rfl⟩ := hrel
          by_cases hlt2 : i < n + 1
          · have hil : (i : Int) < (n : Int) + 1 := by omega
            have q := HF.out.cell (HC.out i (by rw [HN.out]; exact hlt2)) (fun h => h)
            have HT : Hid (l.take (i + 1) = l.take i ++ [l.getD i 0]) := by
              have : l.take (i + 1) = l.take i ++ [l.getD i 0] := by
                rw [List.take_add_one, List.getD_eq_getElem?_getD, List.getElem?_eq_getElem (by rw [HN.out]; exact hlt2)]; rfl
              exact this
            have HCT : Hid ((l.take (i + 1)).contains c = ((l.take i).contains c || decide (l.getD i 0 = c))) := by
              have : (l.take (i + 1)).contains c = ((l.take i).contains c || decide (l.getD i 0 = c)) := by rw [HT.out, contains_snoc]
              exact this
            generalize l.getD i 0 = x at q HCT HT
            cases hcon : (l.take i).contains c with
            | true =>
              have HCON := Lib.hid hcon
              clear hcon
              go_wp2_with fail
              go_round
              case rel => exact ⟨i + 1, by omega, by go_num, by rw [HCT.out, HCON.out]; rfl⟩
              case measure => simp [intOf]; omega
            | false =>
              have HCON := Lib.hid hcon
              clear hcon
              by_cases e : x = c
              · have HE := Lib.hid (decide_eq_true e)
                have h1 : ((x : Int) == (c : Int)) = true := by simp [e]
                clear e
                go_wp2_with fail
                go_round
                case rel => exact ⟨i + 1, by omega, by go_num, by rw [HCT.out, HCON.out, HE.out]; rfl⟩
                case measure => simp [intOf]; omega
              · have HE := Lib.hid (decide_eq_false e)
                have h1 : ((x : Int) == (c : Int)) = false := by simp; omega
                clear e
                go_wp2_with fail
                go_round
                case rel => exact ⟨i + 1, by omega, by go_num, by rw [HCT.out, HCON.out, HE.out]; rfl⟩
                case measure => simp [intOf]; omega
          · obtain rfl : i = n + 1 := by omega
            rw [List.take_of_length_le (by rw [HN.out]; exact Nat.le_refl _)]
            have HSUC : Hid (ringF G s f l a c = [] → ∀ k, k < c + 1 → ringF G s f l a k = []) := fun h k hk => by
              by_cases e : k = c
              · rw [e]; exact h
              · exact HNO.out k (by omega)
            cases hcon : l.contains c with
            | true =>
              have HZ := Lib.hid (HSUC.out (by unfold ringF; rw [hcon]; rfl))
              clear hcon
              go_wp2_with fail
              go_roundw
              case rel => exact ⟨c + 1, by omega, by go_num, HZ.out, HF.out⟩
              case measure => simp [intOf]; omega
            | false =>
              have HCON := Lib.hid hcon
              clear hcon
              go_wp2_with fail
              refine (points_any _ G a (c : Int) wr (HG.out.fr0 HF.out) ha (by omega)).mono ?_
              rintro e w1 ⟨rfl, rfl⟩
              cases hsee : sees G a c with
              | false =>
                have es : (G.getD a []).contains (c : Int) = false := hsee
                rw [es]
                have HZ := Lib.hid (HSUC.out (by unfold ringF; rw [HCON.out, hsee]; rfl))
                clear hsee es
                go_wp2_with fail
                go_roundw
                case rel => exact ⟨c + 1, by omega, by go_num, HZ.out, HF.out⟩
                case measure => simp [intOf]; omega
              | true =>
                have es : (G.getD a []).contains (c : Int) = true := hsee
                rw [es]
                have HEQ : Hid (ringF G s f l a c = ringsP G s f (l ++ [c]) c) := by
                  have : ringF G s f l a c = ringsP G s f (l ++ [c]) c := by unfold ringF; rw [HCON.out, hsee]; rfl
                  exact this
                have HSL : Hid (SlAt wr 1 (.slice (some ⟨b, off, none⟩) (n + 1) cap) (n + 1) ((ints l).map (Value.int .i64))) := (SlAt.of_ints (HV.out.fr HF.out (fun _ _ h => h))).cast (by rw [ints_len]; exact HN.out) rfl
                have HONE : Hid (∀ u ∈ (ints l).map (Value.int .i64), u.oneCell' = true) := fun u hu => by
                  obtain ⟨z, _, rfl⟩ := List.mem_map.1 hu
                  rfl
                clear hsee es
                have HLN2 : Hid ((ints l).length ≤ 100000) := by
                  have h1 := HN.out
                  have : (ints l).length ≤ 100000 := by rw [ints_len]; omega
                  exact this
                go_wp2_with (first
                  | (at_builtin; refine wpList_app _ rfl _ _ 27 rfl Try.sltInt (.slice none 0 0) rfl (World.ownsRow_nil _ _ _ _) _ rfl HSL.out HONE.out (by omega) ?_; intro a2 c2 w2 ho hg hat; simp only [Nat.zero_add, List.nil_append] at ho hat ⊢; have HK0 := Lib.hid ((LK.start (own_lies ho HN.out hg hat) 0).newBk 3 #[.int .i64 (c : Int)]); clear ho hg hat)
                  | (at_builtin; refine wpList_plain rfl fun K hK => ?_; refine wp_oapp _ _ rfl HK0.out rfl rfl 0 rfl 1 rfl HLN2.out ?_; intro a3 c3 w3 hk3; have HK3 := Lib.hid hk3; refine hK _ _ ?_; clear hK hk3; have hn := HN.out; simp only [ints_len, hn]; clear hn))
                have HF3 := Lib.hid (HF.out.trans0 HK3.out.1.fr)
                have HI3 : Hid (IntsAt w3 (.slice a3 (n + 1 + 1) c3) (ints (l ++ [c]))) := by
                  have h1 := (HK3.out.1.row 0 rfl).at
                  rw [ints_len, HN.out] at h1
                  have e5 : ints l ++ [(c : Int)] = ints (l ++ [c]) := by simp [ints]
                  rw [e5] at h1
                  exact h1
                have hih := IH.out (l ++ [c]) c (.slice a3 (n + 1 + 1) c3) w3 (HG.out.fr0 HF3.out) HI3.out hlt (by simp) (by
                  have := HN.out
                  rw [List.getD_eq_getElem?_getD, List.getElem?_append_left (by omega), ← List.getD_eq_getElem?_getD]; exact HS0.out) (by simp [List.getD_eq_getElem?_getD]) (by have := HN.out; simp; omega)
                have en : (l ++ [c]).length + f = n + 1 + (f + 1) := by have := HN.out; simp; omega
                rw [en, HNN.out] at hih
                refine hih.mono ?_
                rintro e w4 ⟨v, rfl, hv4, hf4⟩
                rw [← HEQ.out] at hv4
                obtain ⟨va, vc, rfl⟩ := hv4.shape
                rw [ints_len] at hv4 ⊢
                have HV4 := Lib.hid hv4
                have HF4 := Lib.hid (HF3.out.trans0 hf4)
                clear hih en hv4 hf4 HSL HONE
                rcases Nat.eq_zero_or_pos (ringF G s f l a c).length with hz | hz
                · have HZ := Lib.hid (HSUC.out (List.eq_nil_of_length_eq_zero hz))
                  rw [hz]
                  clear hz
                  go_wp2_with fail
                  go_roundw
                  case rel => exact ⟨c + 1, by omega, by go_num, HZ.out, HF4.out⟩
                  case measure => simp [intOf]; omega
                · have HZ : Hid (ringsP G s (f + 1) l a = ringF G s f l a c) := by
                    have : ringsP G s (f + 1) l a = ringF G s f l a c := by
                      rw [ringsP_succ, firstTo_at (fun e => by rw [e] at hz; cases hz) HNO.out hlt]
                    exact this
                  rw [← HZ.out] at hz HV4 ⊢
                  generalize hxs : ringsP G s (f + 1) l a = xs at *
                  have HXS := Lib.hid hxs
                  clear hxs HZ HSUC HEQ
                  have hzz : (0 : Int) < (xs.length : Int) := by omega
                  go_wp2_with fail
                  go_ret
                  refine ⟨_, rfl, ?_, HF4.out⟩
                  rw [HXS.out]
                  exact HV4.out
      · obtain rfl : c = G.length := by omega
        go_wp2_with fail
        go_ret
        refine ⟨_, rfl, .inl ⟨rfl, ?_⟩, HF.out⟩
        rw [ringsP_succ, firstTo_nil HNO.out]; rfl
set_option maxRecDepth 100000 in
set_option maxHeartbeats 1000000 in
theorem dring_any (gv : Value) (G : List (List Int)) (i : Int) (w : World) (h : GraphAt w gv G) (hl : G.length ≤ 1000) :
    Calls Try.prog 17 #[gv, .int .i64 i] w (IRet (if 0 ≤ i ∧ i < G.length then ints (ringP G i.toNat) else []) w) := by
  obtain ⟨ga, gcap, rfl⟩ := h.shape
  have HG := Lib.hid h
  clear h
  by_cases hi : 0 ≤ i ∧ i < G.length
  · obtain ⟨s, rfl⟩ : ∃ s : Nat, i = (s : Int) := ⟨i.toNat, by omega⟩
    rw [if_pos hi, Int.toNat_natCast]
    have hs : s < G.length := by omega
    have hss : (s : Int) < (G.length : Int) := by omega
    clear hi
    have d0 : decide ((s : Int) < 0) = false := decide_eq_false (by omega)
    have d1 : decide (G.length ≤ s) = false := decide_eq_false (by omega)
    go_enter Try.func17, Try.ntmps17
    go_wp2_with fail
    go_loopw [5] (fun vz wr => ∃ z : Nat, z ≤ G.length ∧ vz = .int .i64 ((z : Int) + 1) ∧ (∀ k, k < z → ringsP G s k [s] s = []) ∧ Fr w wr Nil) (fun vz _ => G.length + 1 - (intOf vz).toNat)
    case atStart => exact ⟨0, by omega, rfl, (fun k hk => by omega), Fr.refl _ _⟩
    case round =>
      obtain ⟨z, hz, rfl, hno, hf⟩ := hrel
      have HNO := Lib.hid hno
      have HF := Lib.hid hf
      clear hno hf
      by_cases hlt : z < G.length
      · have hzl : (z : Int) + 1 ≤ (G.length : Int) := by omega
        have HL1 := Lib.hid ((Lies.nil (HF.out)).lit #[.int .i64 (s : Int)] 1 (ints [s]) rfl rfl (by decide))
        go_wp2_with fail
        have hih := rings_any (.slice ga G.length gcap) G s hl z [s] s (.slice (some ⟨wr.heap.size, 0, none⟩) 1 1) _ (HG.out.fr0 HL1.out.fr) (HL1.out.row 0 rfl).at hs (by simp) rfl rfl (by simp; omega)
        have en : (([s].length + z : Nat) : Int) = (z : Int) + 1 := by simp; omega
        rw [en] at hih
        refine hih.mono ?_
        rintro e w4 ⟨v, rfl, hv4, hf4⟩
        obtain ⟨va, vc, rfl⟩ := hv4.shape
        rw [ints_len] at hv4 ⊢
        have HV4 := Lib.hid hv4
        have HF4 := Lib.hid (HL1.out.fr.trans0 hf4)
        clear hih en hv4 hf4 HL1
        rcases Nat.eq_zero_or_pos (ringsP G s z [s] s).length with hzz | hzz
        · have HZ : Hid (∀ k, k < z + 1 → ringsP G s k [s] s = []) := fun k hk => by
            by_cases e : k = z
            · rw [e]; exact List.eq_nil_of_length_eq_zero hzz
            · exact HNO.out k (by omega)
          rw [hzz]
          clear hzz
          go_wp2_with fail
          go_roundw
          case rel => exact ⟨z + 1, by omega, by go_num, HZ.out, HF4.out⟩
          case measure => simp [intOf]; omega
        · have HZ : Hid (ringP G s = ringsP G s z [s] s) := by
            have : ringP G s = ringsP G s z [s] s := by
              unfold ringP
              rw [firstTo_at (b := z) (fun e => by rw [e] at hzz; cases hzz) HNO.out hlt]
            exact this
          generalize hxs : ringsP G s z [s] s = xs at *
          have HXS := Lib.hid hxs
          clear hxs
          have hp : (0 : Int) < (xs.length : Int) := by omega
          go_wp2_with fail
          go_ret
          refine ⟨_, rfl, ?_, HF4.out⟩
          rw [HZ.out]
          exact HV4.out
      · obtain rfl : z = G.length := by omega
        go_wp2_with fail
        go_ret
        refine ⟨_, rfl, .inl ⟨rfl, ?_⟩, HF.out⟩
        unfold ringP
        rw [firstTo_nil HNO.out]; rfl
  · rw [if_neg hi]
    go_enter Try.func17, Try.ntmps17
    by_cases h0 : i < 0
    · go_wp2_with fail
      go_ret
      exact ⟨_, rfl, .inl ⟨rfl, rfl⟩, Fr.refl _ _⟩
    · have h1 : (G.length : Int) ≤ i := by omega
      go_wp2_with fail
      go_ret
      exact ⟨_, rfl, .inl ⟨rfl, rfl⟩, Fr.refl _ _⟩
set_option maxRecDepth 100000 in
set_option maxHeartbeats 1000000 in
theorem dreach_any (gv : Value) (G : List (List Int)) (i : Int) (w : World) (h : GraphAt w gv G) (hl : G.length ≤ 1000) :
    Calls Try.prog 24 #[gv, .int .i64 i] w (IRet (if 0 ≤ i ∧ i < G.length then reachP G i.toNat else []) w) := by
  obtain ⟨ga, gcap, rfl⟩ := h.shape
  have HG := Lib.hid h
  clear h
  by_cases hi : 0 ≤ i ∧ i < G.length
  · obtain ⟨s, rfl⟩ : ∃ s : Nat, i = (s : Int) := ⟨i.toNat, by omega⟩
    rw [if_pos hi, Int.toNat_natCast]
    have hs : s < G.length := by omega
    have hss : (s : Int) < (G.length : Int) := by omega
    clear hi
    go_enter Try.func24, Try.ntmps24
    go_wp2_with fail
    go_loopw [5, 6] (fun vo vi wr => ∃ m : Nat, m ≤ G.length ∧ vi = .int .i64 (m : Int) ∧ Lies w wr [owT vo (ints (reachTo G s m))]) (fun _ vi _ => G.length - (intOf vi).toNat)
    case atStart => exact ⟨0, by omega, rfl, (Lies.nil (Fr.refl _ _)).addRow (v := .slice none 0 0) (xs := []) (World.ownsRow_nil _ _ _ _) (fun _ h => by cases h) (Fr.refl _ _)⟩
    case round =>
      obtain ⟨m, hm, rfl, hL⟩ := hrel
      have HL := Lib.hid hL
      clear hL
      by_cases hlt : m < G.length
      · have hml : (m : Int) < (G.length : Int) := by omega
        go_wp2_with fail
        refine (way_any _ G s m wr (HG.out.fr0 HL.out.fr) hlt (by omega)).mono ?_
        rintro e w2 ⟨rfl, hf2⟩
        have HL2 := Lib.hid (HL.out.fr0 hf2)
        clear hf2
        cases hw : wayP G s m with
        | false =>
          have hr := reachTo_skip hw
          rw [← hr] at HL2
          clear hw hr
          go_wp2_with fail
          go_roundw
          case rel => exact ⟨m + 1, by omega, by go_num, HL2.out⟩
          case measure => simp [intOf]; omega
        | true =>
          have HR := Lib.hid (reachTo_put hw)
          have HLN : Hid ((ints (reachTo G s m)).length ≤ 100000) := by
            have h1 := reachTo_len G s m
            have : (ints (reachTo G s m)).length ≤ 100000 := by rw [ints_len]; omega
            exact this
          have HK0 := Lib.hid ((LK.start HL2.out 0).newBk 3 #[.int .i64 (m : Int)])
          clear hw
          go_wp2_with (at_builtin; refine wpList_plain rfl fun K hK => ?_; refine wp_oapp _ _ rfl HK0.out rfl rfl 0 rfl 1 rfl HLN.out ?_; intro a3 c3 w3 hk3; have HK3 := Lib.hid hk3; refine hK _ _ ?_; clear hK hk3)
          have h5 := HK3.out.1.take 1
          have e5 : ints (reachTo G s m) ++ [(m : Int)] = ints (reachTo G s (m + 1)) := by rw [HR.out]; simp [ints]
          rw [e5] at h5
          have HL5 := Lib.hid h5
          clear h5 e5 HK3
          go_roundw
          case rel => exact ⟨m + 1, by omega, by go_num, HL5.out⟩
          case measure => simp [intOf]; omega
      · obtain rfl : m = G.length := by omega
        go_wp2_with fail
        go_ret
        refine ⟨_, rfl, ?_, HL.out.fr⟩
        have h1 := (HL.out.row 0 rfl).at
        rw [reachTo_all] at h1
        exact h1
  · rw [if_neg hi]
    go_enter Try.func24, Try.ntmps24
    go_wp2_with fail
    go_loopw [5, 6] (fun vo vi wr => vo = .slice none 0 0 ∧ vi = .int .i64 0 ∧ wr = w) (fun _ _ _ => 0)
    case atStart => exact ⟨rfl, rfl, rfl⟩
    case round =>
      obtain ⟨rfl, rfl, rfl⟩ := hrel
      by_cases hg : 0 < G.length
      · have hg0 : (0 : Int) < (G.length : Int) := by omega
        by_cases h0 : i < 0
        · have h1 : ¬ (0 ≤ i) := by omega
          go_wp2_with fail
          go_ret
          exact ⟨_, rfl, .inl ⟨rfl, rfl⟩, Fr.refl _ _⟩
        · have h1 : (G.length : Int) ≤ i := by omega
          have h2 : 0 ≤ i := by omega
          go_wp2_with fail
          go_ret
          exact ⟨_, rfl, .inl ⟨rfl, rfl⟩, Fr.refl _ _⟩
      · have hg0 : ¬ ((0 : Int) < (G.length : Int)) := by omega
        go_wp2_with fail
        go_ret
        exact ⟨_, rfl, .inl ⟨rfl, rfl⟩, Fr.refl _ _⟩
end Go.Proofs.Ytkeiphmhckkniaa
