/-
  Walk of waits.Reach.
  No condition but sizes.
-/
import Derived.Test.YtkeiphmhckkniaaWtReachP
import Derived.Test.YtkeiphmhckkniaaWtQueue
import Derived.Test.YtkeiphmhckkniaaWtRange
namespace Go.Proofs.Ytkeiphmhckkniaa
open Go Go.RowKit Go.Shelf

attribute [local go_sem] Oper.semAt_some
def natsOf (out : List Int) : List Nat := out.map Int.toNat
theorem natsOf_snoc (out : List Int) (k : Nat) : natsOf (out ++ [(k : Int)]) = natsOf out ++ [k] := by simp [natsOf]
structure RE where
  ov : Value
  lv : Value
  Q : List Int
  out : List Int
/-- What lies in memory while nodes are gone over. -/
abbrev reachL (n sr sbx obx lbx : Nat) (ov lv : Value) (Q out : List Int) : List Thing :=
  [boT sr n (thOf n (natsOf out)), bkT sbx 51 [.slice (some ⟨sr, 0, none⟩) n n], bkT obx 27 [ov], quT lv Q, bkT lbx 27 [lv], owT ov out]
def slLen (W : World) (b : Nat) : Nat := match W.cell? ⟨b, 0, none⟩ with | some (.slice _ n _) => n | _ => 0
def blkOf : Value → Nat
  | .pointer (some p) => p.block
  | _ => 0
theorem slLen_bk {W : World} {b n c : Nat} {e : TypeId} {a : Option Addr} (h : Bk W b e [.slice a n c]) : slLen W b = n := by
  have := h.cell 0
  unfold slLen
  rw [this]; rfl
theorem reach_start {w w1 : World} {n sr : Nat} {s : Int} (hB : OwnBools w1 sr n n (thOf n [])) (hsr : sr = w.heap.size) (hf : Fr w w1 Nil) :
    Lies w ((((w1.alloc (.cells #[.slice (some ⟨sr, 0, none⟩) n n] 51)).alloc (.cells #[.slice none 0 0] 27)).alloc (.cells #[.int .i64 s] 3)).alloc (.cells #[.slice (some ⟨w1.heap.size + 1 + 1, 0, none⟩) 1 1] 27))
      (marksT [] :: reachL n sr w1.heap.size (w1.heap.size + 1) (w1.heap.size + 1 + 1 + 1) (.slice none 0 0) (.slice (some ⟨w1.heap.size + 1 + 1, 0, none⟩) 1 1) [s] []) := by
  have hm : Lies w w [marksT []] := (Lies.nil (Fr.refl w Nil)).add (marksT []) (S := fun _ => False) ⟨⟨List.Pairwise.nil, fun D hD => by cases hD⟩, fun k => ⟨fun h => h.elim, fun h => by cases h⟩⟩ (fun k hk => hk.elim) (Fr.refl w Nil)
  have h0 : Lies w w1 [marksT [], boT sr n (thOf n [])] := hm.add (boT sr n (thOf n [])) (S := fun k => k = sr) ⟨hB, fun _ => Iff.rfl⟩ (fun k hk => by omega) hf
  have h1 := h0.newBk 51 #[.slice (some ⟨sr, 0, none⟩) n n]
  have h2 := h1.newBk 27 #[.slice none 0 0]
  have h3 := h2.add (quT (.slice (some ⟨((w1.alloc (.cells #[.slice (some ⟨sr, 0, none⟩) n n] 51)).alloc (.cells #[.slice none 0 0] 27)).heap.size, 0, none⟩) 1 1) [s]) (S := fun k => k = ((w1.alloc (.cells #[.slice (some ⟨sr, 0, none⟩) n n] 51)).alloc (.cells #[.slice none 0 0] 27)).heap.size) ⟨QAt.one _ s, fun k => ⟨fun e => by rw [e]; rfl, fun e => by cases e; rfl⟩⟩ (fun k hk => by omega) ((Fr.refl _ Nil).alloc _)
  have h4 := h3.newBk 27 #[.slice (some ⟨((w1.alloc (.cells #[.slice (some ⟨sr, 0, none⟩) n n] 51)).alloc (.cells #[.slice none 0 0] 27)).heap.size, 0, none⟩) 1 1]
  have h5 := h4.add (owT (.slice none 0 0) []) (S := fun _ => False) ⟨World.ownsRow_nil _ _ _ _, fun k => ⟨fun e => e.elim, fun e => by cases e⟩⟩ (fun k hk => hk.elim) (Fr.refl _ Nil)
  simp at h5
  exact h5
set_option maxRecDepth 100000 in
set_option maxHeartbeats 2000000 in
theorem reach_in (gv : Value) (G : List (List Int)) (s : Nat) (w : World) (h : GraphAt w gv G) (hs : s < G.length) (hl : G.length ≤ 1000) :
    Calls Try.prog 23 #[gv, .int .i64 (s : Int)] w fun e w' => ∃ a cap, e = .returned (.slice a (reachP G s).length cap) ∧ OwnInts w' 3 (.slice a (reachP G s).length cap) (reachP G s) ∧ NewFrom w.heap.size (.slice a (reachP G s).length cap) ∧ Fr w w' Nil := by
  obtain ⟨ib, hib, hz0, hz1, hz2⟩ := info_parts (P := Try.prog) (e := 4) (z := .bool false) (size := 1) (bytes := 1) (by kernel_rfl)
  obtain ⟨ga, gcap, rfl⟩ := h.shape
  have HG := Lib.hid h
  have hss : (s : Int) < (G.length : Int) := by omega
  have Hb1 : Hid (ib.bytes * G.length ≤ 281474976710656) := by
    have : ib.bytes * G.length ≤ 281474976710656 := by rw [hz2]; omega
    exact this
  have Hb2 : Hid (G.length ≤ maxLen) := by
    have : G.length ≤ maxLen := by unfold maxLen; omega
    exact this
  obtain ⟨w1, hrun, hown, hgr⟩ := run_make_full (P := Try.prog) w 0 51 4 ib (.bool false) 1 Try.underlying51 hib hz0 hz1 .i64 .i64 G.length Hb1.out Hb2.out (Nat.zero_le _)
  have HB0 : Hid (OwnBools w1 w.heap.size G.length G.length (thOf G.length [])) := own_made hown
  have Hf0 : Hid (Fr w w1 Nil) := (Fr.refl w Nil).grown hgr (fun k hk => by cases hk)
  clear h hown hgr
  refine (callsIn_wide (n := 8)).1 ?_
  refine callsIn_of_wp_marks Try.func23 rfl trivial ?_ rfl
  simp only [Try.ntmps23, List.size_toArray, List.length_cons, List.length_nil, Nat.reduceAdd, Nat.reduceSub, Array.replicate_succ, Array.replicate_zero, List.push_toArray, List.append_toArray, List.nil_append, List.cons_append]
  gi_wp2
  refine wpIn_loop (fun a W => ∃ (lbx : Nat) (ov lv : Value) (Q out : List Int) (ds : List Nat) (u8 u15 u16 u22 u23 u24 u25 u26 u27 u28 u29 u30 u31 u32 u33 u34 u35 u36 u37 u38 u39 u40 u41 u42 u43 u44 u45 u46 u47 u48 u49 u50 u51 u52 : Value), a = { tmps := #[.slice ga G.length gcap, .int .i64 (s : Int), undef, undef, .slice none 0 0, .pointer (some ⟨w1.heap.size, 0, none⟩), .pointer (some ⟨w1.heap.size + 1, 0, none⟩), .pointer (some ⟨lbx, 0, none⟩), u8, .int .i64 (s : Int), .bool (decide ((s : Int) < 0)), .bool (decide ((s : Int) < 0)), .int .i64 (s : Int), .slice ga G.length gcap, .int .i64 (G.length : Int), u15, u16, .slice ga G.length gcap, .int .i64 (G.length : Int), .slice (some ⟨w.heap.size, 0, none⟩) G.length G.length, .int .i64 (s : Int), .slice (some ⟨w1.heap.size + 1 + 1, 0, none⟩) 1 1, u22, u23, u24, u25, u26, u27, u28, u29, u30, u31, u32, u33, u34, u35, u36, u37, u38, u39, u40, u41, u42, u43, u44, u45, u46, u47, u48, u49, u50, u51, u52], defers := ds.map markD } ∧
      Lies w W (marksT ds :: reachL G.length w.heap.size w1.heap.size (w1.heap.size + 1) lbx ov lv Q out) ∧ RQ G s Q out)
    (fun a W => (G.length - slLen W (w1.heap.size + 1)) + slLen W (blkOf (a.tmps.getD 7 undef))) ?start ?round
  case start => exact ⟨_, _, _, _, _, [], undef, _, _, undef, undef, undef, undef, undef, undef, undef, undef, undef, undef, undef, undef, undef, undef, undef, undef, undef, undef, undef, undef, undef, undef, undef, undef, undef, undef, undef, undef, undef, undef, undef, rfl, reach_start HB0.out rfl Hf0.out, RQ.start G s⟩
  case round =>
    rintro a W ⟨lbx, ov, lv, Q, out, ds, u8, u15, u16, u22, u23, u24, u25, u26, u27, u28, u29, u30, u31, u32, u33, u34, u35, u36, u37, u38, u39, u40, u41, u42, u43, u44, u45, u46, u47, u48, u49, u50, u51, u52, rfl, hL, hQ⟩
    have HL := Lib.hid hL
    have HQ := Lib.hid hQ
    have q0 := (hL.bk 5 rfl).cell 0
    clear hL hQ
    rcases Q with _ | ⟨x, Q⟩
    · obtain ⟨b, off, cap, cur, rfl, -, -, -, -⟩ := HL.out.queue 4 rfl
      simp only [List.length_nil] at q0 HL ⊢
      have q1 := (HL.out.bk 3 rfl).cell 0
      gi_wp2
      refine ⟨trivial, ?_⟩
      refine (callsIn_wide.2 (sort_int _ out W (HL.out.row 6 rfl) (by have := HQ.out.len; omega))).mono ?_
      rintro e W2 ⟨rfl, ho2, hf2⟩
      have HL2 := Lib.hid (HL.out.rowTo 6 rfl ho2 hf2)
      have q2 := (HL2.out.bk 3 rfl).cell 0
      clear ho2 hf2
      gi_wp2
      have hm := HL2.out.marks 0 rfl
      refine leaves_marks ds W2 hm.1 hm.2.1 fun W' hf => ?_
      have h3 := HL2.out.leave hf
      have h4 := h3.row 5 rfl
      have h5 := h3.newFrom 5 rfl
      rw [HQ.out.sorted] at h4
      obtain ⟨oa, oc, rfl⟩ := h4.shape
      exact ⟨_, results_tmp rfl _ _ _, oa, oc, rfl, h4, h5, h3.fr⟩
    · obtain ⟨b, off, cap, rfl, hc0, hcap⟩ := (HL.out.queue 4 rfl).head
      obtain ⟨t, rfl, ht, -⟩ := HQ.out.node hs (HQ.out.qin x (by simp))
      gi_wp2
      refine ⟨trivial, ?_⟩
      refine (callsIn_wide.2 (of_any _ G t W (HG.out.fr0 HL.out.fr) ht)).mono ?_
      rintro e W1 hr
      obtain ⟨Bs, av, ac, rfl, hL1⟩ := HL.out.of hr
      have HL1 := Lib.hid hL1
      clear hr hL1
      gi_wp2
      refine wpIn_range_of 8 (by decide) (Bs := Bs) (cap := ac) (av := av) (es := ofP G t) rfl (by have := ofP_len (G := G) (i := t); have := HG.out.row_len t; omega)
        (E := RE) (fun e => reachL G.length w.heap.size w1.heap.size (w1.heap.size + 1) lbx e.ov e.lv e.Q e.out)
        (fun pre e => RQ G s e.Q e.out ∧ (∃ Q', e.Q = (t : Int) :: Q') ∧ (∀ y ∈ pre, y ∈ e.out) ∧ e.Q.length + out.length = (Q.length + 1) + e.out.length)
        ds ?_ ⟨⟨ov, .slice (some ⟨b, off, none⟩) (Q.length + 1) cap, (t : Int) :: Q, out⟩, HL1.out, HQ.out, ⟨Q, rfl⟩, (fun y hy => by cases hy), by simp⟩ ?assign ?body ?done
      · intro e y hy
        simp only [reachL, List.mem_cons, List.not_mem_nil, or_false] at hy
        rcases hy with rfl | rfl | rfl | rfl | rfl | rfl
        all_goals first | exact cells_bo _ _ _ | exact cells_bk _ _ _ | exact cells_qu _ _ | exact cells_ow _ _
      case assign =>
        intro l x W K hK
        gi_wp2
        exact hK
      case body =>
        rintro l pre x W2 ⟨ov2, lv2, Q2, out2⟩ hx hlt hL2 ⟨hq2, hqh, hpre, hlen⟩
        dsimp only at hL2 hq2 hqh hpre hlen
        obtain ⟨k, rfl⟩ : ∃ k : Nat, x = (k : Int) := ⟨x.toNat, by have := (mem_ofP.1 hx).2.1; omega⟩
        have hk : k < G.length := by have := (mem_ofP.1 hx).2.2; omega
        have hck := (hL2.bools 1 rfl).cell (thOf_len _ _) k hk
        have hfk := (hL2.bools 1 rfl).free k
        rw [thOf_getD hk] at hck
        have hiff : (natsOf out2).contains k = true ↔ (k : Int) ∈ out2 := by
          rw [List.contains_iff_mem]
          unfold natsOf
          rw [List.mem_map]
          exact ⟨fun ⟨y, hy, e⟩ => by obtain ⟨u, rfl, _⟩ := hq2.leads y hy; rw [show k = u by simpa using e.symm]; exact hy, fun h => ⟨_, h, by simp⟩⟩
        have q2 := (hL2.bk 2 rfl).cell 0
        have HL2 := Lib.hid hL2
        have HQ2 := Lib.hid hq2
        have HIFF := Lib.hid hiff
        have hkk : (k : Int) < (G.length : Int) := by omega
        clear hL2 hq2 hiff q0 hc0
        dsimp only [setX]
        try simp only [List.setIfInBounds_toArray, List.set_cons_zero, List.set_cons_succ]
        by_cases hsn : (natsOf out2).contains k = true
        · rw [hsn] at hck
          gi_wp2
          exact ⟨⟨ov2, lv2, Q2, out2⟩, LK.start HL2.out _, HQ2.out, hqh, (fun y hy => by
            rcases List.mem_append.1 hy with hy | hy
            · exact hpre y hy
            · rw [List.mem_singleton.1 hy]; exact HIFF.out.1 hsn), hlen⟩
        · rw [Bool.not_eq_true] at hsn
          rw [hsn] at hck
          have HN : Hid (((k : Nat) : Int) ∉ out2) := fun h => by
            rw [HIFF.out.2 h] at hsn; cases hsn
          have HQL : Hid (Q2.length ≤ 100000) := by
            have h1 := HQ2.out.len
            have h2 := HQ2.out.qlen
            have : Q2.length ≤ 100000 := by omega
            exact this
          have HOL : Hid (out2.length ≤ 100000) := by
            have h1 := HQ2.out.len
            have : out2.length ≤ 100000 := by omega
            exact this
          have HPUSH := Lib.hid (HQ2.out.push hs (x := (t : Int)) (by obtain ⟨Q', rfl⟩ := hqh; simp) (by simpa using hx) HN.out)
          have HFIN : Hid (∀ b6 o6 c6 a7 c7 W', LK w W1.heap.size W2 W' (marksT ds :: (reachL G.length w.heap.size w1.heap.size (w1.heap.size + 1) lbx (.slice a7 (out2.length + 1) c7) (.slice (some ⟨b6, o6, none⟩) (Q2.length + 1) c6) (Q2 ++ [(k : Int)]) (out2 ++ [(k : Int)]) ++ [seqT Bs av ac (ofP G t)])) → ∃ e' : RE, LK w W1.heap.size W2 W' (marksT ds :: (reachL G.length w.heap.size w1.heap.size (w1.heap.size + 1) lbx e'.ov e'.lv e'.Q e'.out ++ [seqT Bs av ac (ofP G t)])) ∧ RQ G s e'.Q e'.out ∧ (∃ Q', e'.Q = (t : Int) :: Q') ∧ (∀ y ∈ pre ++ [(k : Int)], y ∈ e'.out) ∧ e'.Q.length + out.length = (Q.length + 1) + e'.out.length) := fun b6 o6 c6 a7 c7 W' hk => ⟨⟨_, _, _, _⟩, hk, HPUSH.out, by obtain ⟨Q', rfl⟩ := hqh; exact ⟨_, rfl⟩, (fun y hy => by
            rcases List.mem_append.1 hy with hy | hy
            · exact List.mem_append_left _ (hpre y hy)
            · exact List.mem_append_right _ hy), by simp only [List.length_append, List.length_singleton]; omega⟩
          gi_wp2
          have HK0 := Lib.hid ((LK.start HL2.out W1.heap.size).storedB 1 rfl k true)
          have q5 := (HK0.out.1.bk 5 rfl).cell 0
          have q3 := (HK0.out.1.bk 3 rfl).cell 0
          rw [thOf_set, ← natsOf_snoc] at HK0
          simp only [List.set_cons_succ] at HK0
          generalize W2.setCell ⟨w.heap.size, k, none⟩ (.bool true) = W3 at *
          refine wpIn_region_sink 8 (fun w' => w'.cell? ⟨lbx, 0, none⟩ = some lv2 ∧ w'.cell? ⟨w1.heap.size + 1, 0, none⟩ = some ov2) (by kernel_rfl) (by kernel_rfl) ?_
          have hS : (fun w' : World => w'.cell? ⟨lbx, 0, none⟩ = some lv2 ∧ w'.cell? ⟨w1.heap.size + 1, 0, none⟩ = some ov2) W3.drew := ⟨q5, q3⟩
          clear q5 q3
          refine wpAnyS_take (i := 0) (v := ?_) rfl (by kernel_rfl) (fun _ _ _ h => h) (by rfl) hS ?_ ?_
          rotate_left
          · intro w' hS'
            (try dsimp only at hS')
            go_simp <;> with_reducible rfl
          try simp only [Act.put, List.setIfInBounds_toArray, List.set_cons_zero, List.set_cons_succ]
          refine wpAnyS_take (i := 1) (v := ?_) rfl (by kernel_rfl) (fun _ _ _ h => h) (by rfl) hS ?_ ?_
          rotate_left
          · intro w' hS'
            (try dsimp only at hS')
            go_simp <;> with_reducible rfl
          try simp only [Act.put, List.setIfInBounds_toArray, List.set_cons_zero, List.set_cons_succ]
          refine wpAnyS_take (i := 4) (v := ?_) rfl (by kernel_rfl) (fun _ _ _ h => h) (by rfl) hS ?_ ?_
          rotate_left
          · intro w' hS'
            (try dsimp only at hS')
            go_simp <;> with_reducible rfl
          try simp only [Act.put, List.setIfInBounds_toArray, List.set_cons_zero, List.set_cons_succ]
          refine wpAnyS_take (i := 5) (v := ?_) rfl (by kernel_rfl) (fun _ _ _ h => h) (by rfl) hS ?_ ?_
          rotate_left
          · intro w' hS'
            (try dsimp only at hS')
            go_simp <;> with_reducible rfl
          try simp only [Act.put, List.setIfInBounds_toArray, List.set_cons_zero, List.set_cons_succ]
          have HS3 : ∀ W' l', Lies w W' l' → l'[5]? = some (bkT lbx 27 [lv2]) → l'[3]? = some (bkT (w1.heap.size + 1) 27 [ov2]) → (fun w' : World => w'.cell? ⟨lbx, 0, none⟩ = some lv2 ∧ w'.cell? ⟨w1.heap.size + 1, 0, none⟩ = some ov2) W' := fun W' l' h h5 h3 => ⟨(h.bk 5 h5).cell 0, (h.bk 3 h3).cell 0⟩
          have HK1 := Lib.hid HK0.out.drew
          generalize W3.drew = W4 at *
          clear hS
          refine wpAnyS_two (i := 2) (j := 6) rfl rfl (by kernel_rfl) (by decide) (by decide) (by rfl) (by rfl) (fun K hK => ?p2) (fun K hK => ?p6)
          case p2 =>
            go_simp
            have HK2 := Lib.hid (HK1.out.newBk 3 #[.int .i64 (k : Int)])
            refine hK.out _ _ (HS3 _ _ HK2.out.1 rfl rfl) ?_
            generalize hww2 : World.alloc _ _ = W101 at *
            clear hK K
            try simp only [Act.put, List.setIfInBounds_toArray, List.set_cons_zero, List.set_cons_succ]
            refine wpAnyS_two (i := 3) (j := 6) rfl rfl (by kernel_rfl) (by decide) (by decide) (by rfl) (by rfl) (fun K hK => ?p3) (fun K hK => ?p7)
            case p3 =>
              refine wp_qapp _ _ (by rfl) HK2.out (v := lv2) (xs := Q2) (y := (k : Int)) (by rfl) (by rfl) 4 rfl 8 rfl HQL.out ?_
              intro b6 o6 c6 W102 hk6
              have HK3 := Lib.hid hk6
              refine hK.out _ _ (HS3 _ _ hk6.1 rfl rfl) ?_
              clear hk6
              clear hK K
              try simp only [Act.put, List.setIfInBounds_toArray, List.set_cons_zero, List.set_cons_succ]
              refine wpAnyS_one (i := 6) rfl (by kernel_rfl) (by decide) (by rfl) fun K hK => ?_
              go_simp
              have HK4 := Lib.hid (HK3.out.newBk 3 #[.int .i64 (k : Int)])
              refine hK.out _ _ (HS3 _ _ HK4.out.1 rfl rfl) ?_
              generalize hww4 : World.alloc _ _ = W103 at *
              clear hK K
              try simp only [Act.put, List.setIfInBounds_toArray, List.set_cons_zero, List.set_cons_succ]
              refine wpAnyS_one (i := 7) rfl (by kernel_rfl) (by decide) (by rfl) fun K hK => ?_
              refine wp_oapp _ _ (by rfl) HK4.out (v := ov2) (xs := out2) (y := (k : Int)) (by rfl) (by rfl) 6 rfl 9 rfl HOL.out ?_
              intro a7 c7 W104 hk7
              have HK5 := Lib.hid hk7
              refine hK.out _ _ (HS3 _ _ hk7.1 rfl rfl) ?_
              clear hk7
              clear hK K
              try simp only [Act.put, List.setIfInBounds_toArray, List.set_cons_zero, List.set_cons_succ]
              refine wpAnyS_lastTwo (i := 8) (j := 9) rfl rfl (by kernel_rfl) (by decide) (by kernel_rfl) (by kernel_rfl) (by rfl) fun K hK => ?_
              have f5 := (HK5.out.1.bk 5 rfl).free 0
              have e5 := (HK5.out.1.bk 5 rfl).cell 0
              have HK6 := Lib.hid (HK5.out.stored 5 rfl 0 (.slice (some ⟨b6, o6, none⟩) (Q2.length + 1) c6))
              have f3 := (HK6.out.1.bk 3 rfl).free 0
              have e3 := (HK6.out.1.bk 3 rfl).cell 0
              have HK7 := Lib.hid (HK6.out.stored 3 rfl 0 (.slice a7 (out2.length + 1) c7))
              go_simp
              refine hK.out _ _ ⟨by rfl, fun K hK => ?_⟩
              try simp only [Act.put, List.setIfInBounds_toArray, List.set_cons_zero, List.set_cons_succ]
              go_simp
              refine hK.out _ _ ?_
              clear hK K
              exact HFIN.out b6 o6 c6 a7 c7 _ (HK7.out.take 8)
            case p7 =>
              go_simp
              have HK3 := Lib.hid (HK2.out.newBk 3 #[.int .i64 (k : Int)])
              refine hK.out _ _ (HS3 _ _ HK3.out.1 rfl rfl) ?_
              generalize hww3 : World.alloc _ _ = W102 at *
              clear hK K
              try simp only [Act.put, List.setIfInBounds_toArray, List.set_cons_zero, List.set_cons_succ]
              refine wpAnyS_one (i := 3) rfl (by kernel_rfl) (by decide) (by rfl) fun K hK => ?_
              refine wp_qapp _ _ (by rfl) HK3.out (v := lv2) (xs := Q2) (y := (k : Int)) (by rfl) (by rfl) 4 rfl 8 rfl HQL.out ?_
              intro b6 o6 c6 W103 hk6
              have HK4 := Lib.hid hk6
              refine hK.out _ _ (HS3 _ _ hk6.1 rfl rfl) ?_
              clear hk6
              clear hK K
              try simp only [Act.put, List.setIfInBounds_toArray, List.set_cons_zero, List.set_cons_succ]
              refine wpAnyS_one (i := 7) rfl (by kernel_rfl) (by decide) (by rfl) fun K hK => ?_
              refine wp_oapp _ _ (by rfl) HK4.out (v := ov2) (xs := out2) (y := (k : Int)) (by rfl) (by rfl) 6 rfl 9 rfl HOL.out ?_
              intro a7 c7 W104 hk7
              have HK5 := Lib.hid hk7
              refine hK.out _ _ (HS3 _ _ hk7.1 rfl rfl) ?_
              clear hk7
              clear hK K
              try simp only [Act.put, List.setIfInBounds_toArray, List.set_cons_zero, List.set_cons_succ]
              refine wpAnyS_lastTwo (i := 8) (j := 9) rfl rfl (by kernel_rfl) (by decide) (by kernel_rfl) (by kernel_rfl) (by rfl) fun K hK => ?_
              have f5 := (HK5.out.1.bk 5 rfl).free 0
              have e5 := (HK5.out.1.bk 5 rfl).cell 0
              have HK6 := Lib.hid (HK5.out.stored 5 rfl 0 (.slice (some ⟨b6, o6, none⟩) (Q2.length + 1) c6))
              have f3 := (HK6.out.1.bk 3 rfl).free 0
              have e3 := (HK6.out.1.bk 3 rfl).cell 0
              have HK7 := Lib.hid (HK6.out.stored 3 rfl 0 (.slice a7 (out2.length + 1) c7))
              go_simp
              refine hK.out _ _ ⟨by rfl, fun K hK => ?_⟩
              try simp only [Act.put, List.setIfInBounds_toArray, List.set_cons_zero, List.set_cons_succ]
              go_simp
              refine hK.out _ _ ?_
              clear hK K
              exact HFIN.out b6 o6 c6 a7 c7 _ (HK7.out.take 8)
          case p6 =>
            go_simp
            have HK2 := Lib.hid (HK1.out.newBk 3 #[.int .i64 (k : Int)])
            refine hK.out _ _ (HS3 _ _ HK2.out.1 rfl rfl) ?_
            generalize hww2 : World.alloc _ _ = W101 at *
            clear hK K
            try simp only [Act.put, List.setIfInBounds_toArray, List.set_cons_zero, List.set_cons_succ]
            refine wpAnyS_one (i := 2) rfl (by kernel_rfl) (by decide) (by rfl) fun K hK => ?_
            go_simp
            have HK3 := Lib.hid (HK2.out.newBk 3 #[.int .i64 (k : Int)])
            refine hK.out _ _ (HS3 _ _ HK3.out.1 rfl rfl) ?_
            generalize hww3 : World.alloc _ _ = W102 at *
            clear hK K
            try simp only [Act.put, List.setIfInBounds_toArray, List.set_cons_zero, List.set_cons_succ]
            refine wpAnyS_one (i := 3) rfl (by kernel_rfl) (by decide) (by rfl) fun K hK => ?_
            refine wp_qapp _ _ (by rfl) HK3.out (v := lv2) (xs := Q2) (y := (k : Int)) (by rfl) (by rfl) 4 rfl 9 rfl HQL.out ?_
            intro b6 o6 c6 W103 hk6
            have HK4 := Lib.hid hk6
            refine hK.out _ _ (HS3 _ _ hk6.1 rfl rfl) ?_
            clear hk6
            clear hK K
            try simp only [Act.put, List.setIfInBounds_toArray, List.set_cons_zero, List.set_cons_succ]
            refine wpAnyS_one (i := 7) rfl (by kernel_rfl) (by decide) (by rfl) fun K hK => ?_
            refine wp_oapp _ _ (by rfl) HK4.out (v := ov2) (xs := out2) (y := (k : Int)) (by rfl) (by rfl) 6 rfl 8 rfl HOL.out ?_
            intro a7 c7 W104 hk7
            have HK5 := Lib.hid hk7
            refine hK.out _ _ (HS3 _ _ hk7.1 rfl rfl) ?_
            clear hk7
            clear hK K
            try simp only [Act.put, List.setIfInBounds_toArray, List.set_cons_zero, List.set_cons_succ]
            refine wpAnyS_lastTwo (i := 8) (j := 9) rfl rfl (by kernel_rfl) (by decide) (by kernel_rfl) (by kernel_rfl) (by rfl) fun K hK => ?_
            have f5 := (HK5.out.1.bk 5 rfl).free 0
            have e5 := (HK5.out.1.bk 5 rfl).cell 0
            have HK6 := Lib.hid (HK5.out.stored 5 rfl 0 (.slice (some ⟨b6, o6, none⟩) (Q2.length + 1) c6))
            have f3 := (HK6.out.1.bk 3 rfl).free 0
            have e3 := (HK6.out.1.bk 3 rfl).cell 0
            have HK7 := Lib.hid (HK6.out.stored 3 rfl 0 (.slice a7 (out2.length + 1) c7))
            go_simp
            refine hK.out _ _ ⟨by rfl, fun K hK => ?_⟩
            try simp only [Act.put, List.setIfInBounds_toArray, List.set_cons_zero, List.set_cons_succ]
            go_simp
            refine hK.out _ _ ?_
            clear hK K
            exact HFIN.out b6 o6 c6 a7 c7 _ (HK7.out.take 8)
      case done =>
        rintro D W2 ⟨ov2, lv2, Q2, out2⟩ hL2 ⟨hq2, hqh, hpre, hlen⟩
        dsimp only at hL2 hq2 hqh hpre hlen
        have HL2 := Lib.hid hL2
        obtain ⟨Q2, rfl⟩ := hqh
        have HQ2 := Lib.hid (hq2.pop fun y hy => hpre y (by simpa using hy))
        have hlen1 := hq2.len
        have HQT := hL2.queue 4 rfl
        obtain ⟨b2, off2, cap2, rfl, -, hcap2⟩ := HQT.head
        have HQ3 := Lib.hid HQT.tail
        clear HQT
        have q5 := (hL2.bk 5 rfl).cell 0
        have HO := Lib.hid (hL2.row 6 rfl)
        have HM : Hid (slLen W (w1.heap.size + 1) = out.length ∧ slLen W lbx = Q.length + 1) := by
          obtain ⟨oa, oc, hoe⟩ := (HL.out.row 6 rfl).shape
          have h1 := HL.out.bk 3 rfl
          rw [hoe] at h1
          exact Lib.hid ⟨slLen_bk h1, slLen_bk (HL.out.bk 5 rfl)⟩
        clear hq2 hpre hL2 q0 hc0
        have HN : Hid (∀ v', QAt W2 v' Q2 → (∃ a n c, v' = .slice a n c ∧ n = Q2.length) → v'.ownBlock = some b2 → Lies w (W2.alloc (.cells #[v'] 27)) (marksT (D :: ds) :: reachL G.length w.heap.size w1.heap.size (w1.heap.size + 1) W2.heap.size ov2 v' Q2 out2) ∧
            (G.length - slLen (W2.alloc (.cells #[v'] 27)) (w1.heap.size + 1)) + slLen (W2.alloc (.cells #[v'] 27)) W2.heap.size < (G.length - slLen W (w1.heap.size + 1)) + slLen W lbx) := fun v' h1 h2 h3 => by
          have h4 := ((HL2.out.quTo 4 rfl h1 (by rw [h3]; rfl)).newBk 27 #[v']).pull 5 8 _ (by decide) rfl
          have h5 := h4.take 7
          refine ⟨h5, ?_⟩
          obtain ⟨a, n, c, rfl, rfl⟩ := h2
          obtain ⟨oa, oc, rfl⟩ := HO.out.shape
          have h6 := slLen_bk (h5.bk 3 rfl)
          have h7 := slLen_bk (h5.bk 5 rfl)
          have h8 := HM.out
          simp only [List.length_cons] at hlen
          omega
        by_cases hc1 : cap2 = 1
        · subst hc1
          have hql : Q2.length = 0 := by omega
          have hR := HQ3.out
          rw [if_pos rfl] at hR
          have HR := Lib.hid (HN.out _ hR ⟨_, _, _, rfl, hql.symm⟩ rfl)
          clear hR hcap2
          rw [hql] at q5
          simp only [Nat.zero_add] at q5
          gi_wp2
          exact ⟨⟨_, _, _, _, _, D :: ds, ⟨rfl, rfl⟩, HR.out.1, HQ2.out⟩, HR.out.2⟩
        · have hR := HQ3.out
          rw [if_neg hc1] at hR
          have HR := Lib.hid (HN.out _ hR ⟨_, _, _, rfl, rfl⟩ rfl)
          clear hR
          gi_wp2
          exact ⟨⟨_, _, _, _, _, D :: ds, _, _, _, _, _, _, _, _, _, _, _, _, _, _, _, _, _, _, _, _, _, _, _, _, _, _, _, _, _, _, _, _, _, _, rfl, HR.out.1, HQ2.out⟩, HR.out.2⟩
/-- A row that is told, of the call's own. -/
def RowRet (xs : List Int) (w : World) (e : Ending) (w' : World) : Prop := ∃ a cap, e = .returned (.slice a xs.length cap) ∧ OwnInts w' 3 (.slice a xs.length cap) xs ∧ NewFrom w.heap.size (.slice a xs.length cap) ∧ Fr w w' Nil
theorem RowRet.nil (w : World) : RowRet [] w (.returned (.slice none 0 0)) w := ⟨none, 0, rfl, World.ownsRow_nil _ _ _ _, (fun _ h => by cases h), Fr.refl _ _⟩
def reachZ (G : List (List Int)) (i : Int) : List Int := if 0 ≤ i ∧ i < G.length then reachP G i.toNat else []
theorem reach_any (gv : Value) (G : List (List Int)) (i : Int) (w : World) (h : GraphAt w gv G) (hl : G.length ≤ 1000) :
    Calls Try.prog 23 #[gv, .int .i64 i] w (RowRet (reachZ G i) w) := by
  by_cases hi : 0 ≤ i ∧ i < G.length
  · obtain ⟨s, rfl⟩ : ∃ s : Nat, i = (s : Int) := ⟨i.toNat, by omega⟩
    unfold reachZ
    rw [if_pos hi, Int.toNat_natCast]
    exact reach_in gv G s w h (by omega) hl
  · unfold reachZ
    rw [if_neg hi]
    obtain ⟨ga, gcap, rfl⟩ := h.shape
    clear h
    go_enter Try.func23, Try.ntmps23
    by_cases h0 : i < 0
    · go_wp2_with fail
      go_ret
      exact RowRet.nil w
    · have h1 : (G.length : Int) ≤ i := by omega
      go_wp2_with fail
      go_ret
      exact RowRet.nil w
end Go.Proofs.Ytkeiphmhckkniaa
