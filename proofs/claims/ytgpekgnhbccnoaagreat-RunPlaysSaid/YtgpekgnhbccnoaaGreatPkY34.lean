/-
 Walks of the law's terms, plain: the instructions as the document has them.
 No condition but sizes.
-/
import Derived.Test.YtgpekgnhbccnoaaGreatPkY27
import Derived.Test.YtgpekgnhbccnoaaGreatPkY22
import Derived.Test.YtgpekgnhbccnoaaGreatPkY13
import Derived.Test.YtgpekgnhbccnoaaGreatPkY31
import Derived.Test.YtgpekgnhbccnoaaGreatPkY32
import Derived.Test.YtgpekgnhbccnoaaGreatPkY15
namespace Go.Proofs.YtgpekgnhbccnoaaGreat
open Go Go.RowKit
attribute [local go_sem ↓] Go.wp_at_zero Go.wp_at_succ

theorem Tryz.sltDTerms : SlT Tryz.prog 93 166 3 24 := SlT.mk (z := .agg #[.int .u8 0, .int .i64 0, .int .i64 0]) Tryz.underlying93 (by kernel_rfl) (by rfl) (by decide) (by decide)
theorem Tryz.sltDVals : SlT Tryz.prog 95 93 1 24 := SlT.mk (z := .slice none 0 0) Tryz.underlying95 (by kernel_rfl) (by rfl) (by decide) (by decide)
theorem Tryz.sltDCode : SlT Tryz.prog 35 97 13 136 := SlT.mk (z := .agg #[.int .u8 0, .int .i64 0, .int .u8 0, .int .i64 0, .bool false, .int .i64 0, .int .i64 0, .int .i64 0, .bool false, .int .i64 0, .int .i64 0, .slice none 0 0, .slice none 0 0]) Tryz.underlying35 (by kernel_rfl) (by rfl) (by decide) (by decide)
def TermsNew (l : List TermD) (w : World) (e : Ending) (w' : World) : Prop := ∃ a c, e = .returned (.slice a l.length c) ∧ w'.ownsRow w.heap.size 166 3 (.slice a l.length c) l.length (l.flatMap TermD.vals) ∧ Fr w w' Nil
set_option maxRecDepth 100000 in
set_option maxHeartbeats 4000000 in
theorem terms_any (v : Value) (l : List TermD) (w : World) (h : TermsAt w v l) (hl : l.length ≤ 100000) : Calls Tryz.prog 42 #[v] w (TermsNew l w) := by
 obtain ⟨a0, c0, rfl⟩ := h.shape
 have H := Lib.hid h
 clear h
 go_enter Tryz.func42, Tryz.ntmps42
 go_wp2_with fail
 go_loopw [3, 4] (fun vs vi wr => ∃ (t : Nat) (g : Option Addr) (cap : Nat), t ≤ l.length ∧ vi = .int .i64 t ∧ vs = .slice g t cap ∧ wr.ownsRow w.heap.size 166 3 (.slice g t cap) t ((l.take t).flatMap TermD.vals) ∧ Fr w wr Nil) (fun _ vi _ => l.length - (intOf vi).toNat)
 case atStart => exact ⟨0, none, 0, by omega, rfl, rfl, World.ownsRow_nil _ _ _ _, Fr.refl _ _⟩
 case round =>
  obtain ⟨t, g, cap, ht, rfl, rfl, ho, hf⟩ := hrel
  have HO := Lib.hid ho
  have HF := Lib.hid hf
  obtain ⟨wo, rfl⟩ : ∃ wo : World, wo = wr := ⟨_, rfl⟩
  clear ho hf
  by_cases hlt : t < l.length
  ·obtain ⟨b, off, cap0, hv, hc⟩ := H.out.form (by omega)
   simp only [Value.slice.injEq, true_and] at hv
   obtain ⟨rfl, rfl⟩ := hv
   have hx := List.getElem?_eq_getElem hlt
   generalize l[t] = x at hx
   have htk : (l.take (t + 1)).flatMap TermD.vals = (l.take t).flatMap TermD.vals ++ x.vals := by
    rw [List.take_add_one, hx, List.flatMap_append]
    simp
   have HTK := Lib.hid htk
   obtain ⟨kx, nx, vx⟩ := x
   obtain ⟨p0, p1, p2⟩ := hc t _ hx
   simp only at p0 p1 p2
   have k0 := KeptF.cell p0
   have k1 := KeptF.cell p1
   have k2 := KeptF.cell p2
   have hii : (t : Int) < (l.length : Int) := by omega
   clear hc hx p0 p1 p2 htk
   go_wp2_with fail
   refine wp_region_sink 19 (KeptF w) (by kernel_rfl) ?_
   have hS : KeptF w wo.drew := HF.out.drew
   refine tk 0 hS ?_
   refine tk 1 hS ?_
   refine tk 2 hS ?_
   refine tk 3 hS ?_
   refine tk 4 hS ?_
   try simp only [Act.put, sA, sB, sC]
   refine tk 5 hS ?_ (hy := by intro _ w; have ck0 := k0 _ w; go_simp <;> with_reducible rfl)
   try simp only [Act.put, sA, sB, sC]
   refine tk 6 hS ?_
   refine tk 7 hS ?_
   refine tk 8 hS ?_
   refine tk 9 hS ?_
   try simp only [Act.put, sA, sB, sC]
   refine tk 10 hS ?_ (hy := by intro _ w; have ck1 := k1 _ w; go_simp <;> with_reducible rfl)
   try simp only [Act.put, sA, sB, sC]
   refine tk 11 hS ?_
   refine tk 12 hS ?_
   refine tk 13 hS ?_
   refine tk 14 hS ?_
   try simp only [Act.put, sA, sB, sC]
   refine tk 15 hS ?_ (hy := by intro _ w; have ck2 := k2 _ w; go_simp <;> with_reducible rfl)
   try simp only [Act.put, sA, sB, sC]
   refine tk 16 hS ?_
   try simp only [Act.put, sA, sB, sC]
   refine on1 17 fun K hK => ?_
   go_simp
   have hS2 := KeptF.next hS ((Fr.refl wo.drew Nil).alloc (.cells #[.int .u8 kx, .int .i64 nx, .int .i64 vx] 166))
   refine hK.out _ _ hS2 ?_
   clear hK K
   try simp only [Act.put, sA, sB, sC]
   have ho1 := ((Fr.refl wo Nil).drew).own (own_mono HO.out (Nat.zero_le _)) fun _ _ h => h
   refine on1 18 fun K hK => ?_
   refine wp_app (P := Tryz.prog) _ _ _ 93 rfl Tryz.sltDTerms _ rfl (World.ownsRow.alloc ho1 _) _ rfl (SlAt.of_block (Bk.new wo.drew _ _)) (by simp [Value.oneCell']) (by omega) ?_
   intro g2 cap2 W1 ho2 hgr hat
   have hlo := fun k hk => (World.ownsRow.lt HO.out k hk).1
   have hS3 : KeptF w W1 := Fr.grown hS2 hgr fun k hk hlt => by have := hlo k hk; omega
   refine hK.out _ _ hS3 ?_
   clear hK K
   try simp only [Act.put, sA, sB, sC]
   refine wpAnyS_last (i := 19) rfl (by kernel_rfl) (by decide) (by kernel_rfl) (by rfl) fun K hK => ?_
   go_simp
   refine hK.out _ _ ?_
   have hob : W1.ownsRow w.heap.size 166 3 (.slice g2 (t + 1) cap2) (t + 1) ((l.take (t + 1)).flatMap TermD.vals) := by
    rw [HTK.out]
    refine own_base ho2 fun k hk => ?_
    rcases hat with e | e
    ·exact hlo k (e.symm.trans hk)
    ·rw [e] at hk
     cases hk
     exact Fr.size hS2
   have HOB := Lib.hid hob
   have HS3 := Lib.hid hS3
   clear hob hS3 hK K hS hS2 ho2 hgr hat ho1 hlo k0 k1 k2
   go_wp2_with fail
   go_roundw
   case rel => exact ⟨t + 1, g2, cap2, by omega, by go_num, rfl, HOB.out, HS3.out⟩
   case measure => simp [intOf]; omega
  ·obtain rfl : t = l.length := by omega
   have hii : ¬ (l.length : Int) < (l.length : Int) := by omega
   have ho := HO.out
   rw [List.take_length] at ho
   have HO2 := Lib.hid ho
   clear ho hlt ht
   go_wp2_with fail
   go_ret
   exact ⟨g, cap, rfl, HO2.out, HF.out⟩
/-- A value's cell. -/
def RVal (vals : List (List TermD)) (t : Nat) (us : List Value) (w : World) : Prop := ∃ x xa xc, vals[t]? = some x ∧ us = [.slice xa x.length xc] ∧ TermsAt w (.slice xa x.length xc) x
def RIns (L : List InstrD) (t : Nat) (us : List Value) (w : World) : Prop := ∃ n kv vv, L[t]? = some n ∧ us = n.cs kv vv ∧ TermsAt w kv n.key ∧ ValsAt w vv n.vals
theorem vals_done {B : Nat} {X : Nat → Prop} {e : TypeId} {w : World} {g : Option Addr} {cap : Nat} {cs : List Value} {vals : List (List TermD)} (h : RowI B X e 1 w g cap vals.length cs (RVal vals)) (hX : ∀ q, (Value.slice g vals.length cap).ownBlock = some q → ¬ X q) : NewS B X w (fun w => ValsAt w (.slice g vals.length cap) vals) := by
 refine (h.done hX).imp fun w' hw => ?_
 rcases hw with h0 | ⟨b, rfl, hc⟩
 ·exact ⟨g, cap, rfl, .inl (List.eq_nil_of_length_eq_zero h0)⟩
 refine ⟨_, cap, rfl, .inr ⟨b, 0, rfl, fun t x hx => ?_⟩⟩
 obtain ⟨us, _, h2, x', xa, xc, h3, rfl, h5⟩ := hc t (List.getElem?_eq_some_iff.1 hx).1
 rw [hx] at h3
 cases h3
 exact ⟨_, by have := h2 0 _ rfl; rwa [Nat.mul_one, Nat.add_zero, ← Nat.zero_add t] at this, h5⟩
theorem code_done {B : Nat} {X : Nat → Prop} {e : TypeId} {w : World} {g : Option Addr} {cap : Nat} {cs : List Value} {L : List InstrD} (h : RowI B X e 13 w g cap L.length cs (RIns L)) (hX : ∀ q, (Value.slice g L.length cap).ownBlock = some q → ¬ X q) : NewS B X w (fun w => CodeAt w (.slice g L.length cap) L) := by
 refine (h.done hX).imp fun w' hw => ?_
 rcases hw with h0 | ⟨b, rfl, hc⟩
 ·exact ⟨g, cap, rfl, .inl (List.eq_nil_of_length_eq_zero h0)⟩
 refine ⟨_, cap, rfl, .inr ⟨b, 0, rfl, fun t n hn => ?_⟩⟩
 obtain ⟨us, _, h2, n', kv, vv, h3, rfl, h5, h6⟩ := hc t (List.getElem?_eq_some_iff.1 hn).1
 rw [hn] at h3
 cases h3
 exact ⟨kv, vv, fun j u hu => by rw [Nat.zero_add]; exact h2 j u hu, h5, h6⟩
set_option maxRecDepth 100000 in
set_option maxHeartbeats 16000000 in
theorem plain_any (lv : Value) (L : List InstrD) (w : World) (h : CodeAt w lv L) (hf : FewC L) : Calls Tryz.prog 10 #[lv] w (CodeRet L w) := by
 obtain ⟨iI, hiI, hsI⟩ : ∃ i, Tryz.prog.info? 97 = some i ∧ i.size = 13 := by
  have h9 : (Tryz.prog.info? 97).map (fun i => i.size) = some 13 := by kernel_rfl
  cases e : Tryz.prog.info? 97 with
  | none => rw [e] at h9; cases h9
  | some i => rw [e] at h9; exact ⟨i, rfl, by simpa using h9⟩
 obtain ⟨l0, lc, rfl⟩ := h.shape
 have H := Lib.hid h
 have HFW := Lib.hid hf
 have hL := hf.1
 clear h hf
 go_enter Tryz.func10, Tryz.ntmps10
 go_wp2_with fail
 go_loopw [3, 4] (fun vs vi wr => ∃ (i : Nat) (g : Option Addr) (cap : Nat) (cs : List Value), i ≤ L.length ∧ vi = .int .i64 i ∧ vs = .slice g i cap ∧ RowI w.heap.size (fun _ => False) 97 13 wr g cap i cs (RIns L) ∧ Fr w wr Nil) (fun _ vi _ => L.length - (intOf vi).toNat)
 case atStart => exact ⟨0, none, 0, [], by omega, rfl, rfl, RowI.nil _ _ _ _ _ _, Fr.refl _ _⟩
 case round =>
  obtain ⟨i, g, cap, cs, hi, rfl, rfl, hr, hf⟩ := hrel
  have HR := Lib.hid hr
  have HF := Lib.hid hf
  obtain ⟨wo, rfl⟩ : ∃ wo : World, wo = wr := ⟨_, rfl⟩
  clear hr hf
  by_cases hlt : i < L.length
  ·obtain ⟨b, off, cap0, hlv, hlc⟩ := H.out.form (by omega)
   simp only [Value.slice.injEq, true_and] at hlv
   obtain ⟨rfl, rfl⟩ := hlv
   have hx := List.getElem?_eq_getElem hlt
   generalize L[i] = x at hx
   have HX := Lib.hid hx
   have HFX := Lib.hid (HFW.out.2 x (List.mem_of_getElem? hx))
   obtain ⟨ka, kc, va, vc, hkt, hvt, p0, p1, p2, p3, p4, p5, p6, p7, p8, p9, p10, p11, p12⟩ := (hlc i x hx).cell
   have HKT := Lib.hid hkt
   have HVT := Lib.hid hvt
   have hii : (i : Int) < (L.length : Int) := by omega
   obtain ⟨op, node, mode, tab, row, col, var, dst, eq, fro, upto, key, vals⟩ := x
   simp only at p0 p1 p2 p3 p4 p5 p6 p7 p8 p9 p10 p11 p12 HKT HVT HFX
   have hkl := HFX.out.1
   have HVF := Lib.hid HFX.out.2
   have hvfl := HFX.out.2.1
   have q0 := HF.out.cell p0 fun h => h
   have q1 := HF.out.cell p1 fun h => h
   have q2 := HF.out.cell p2 fun h => h
   have q3 := HF.out.cell p3 fun h => h
   have q4 := HF.out.cell p4 fun h => h
   have q5 := HF.out.cell p5 fun h => h
   have q6 := HF.out.cell p6 fun h => h
   have q7 := HF.out.cell p7 fun h => h
   have q8 := HF.out.cell p8 fun h => h
   have q9 := HF.out.cell p9 fun h => h
   have q10 := HF.out.cell p10 fun h => h
   have q11 := HF.out.cell p11 fun h => h
   have q12 := HF.out.cell p12 fun h => h
   obtain ⟨b5, hb5⟩ : ∃ b5, b5 = wo.heap.size := ⟨_, rfl⟩
   obtain ⟨w5, hw5⟩ : ∃ w5, w5 = wo.alloc (.cells #[.int .u8 op, .int .i64 node, .int .u8 mode, .int .i64 tab, .bool row, .int .i64 col, .int .i64 var, .int .i64 dst, .bool eq, .int .i64 fro, .int .i64 upto, .slice ka key.length kc, .slice va vals.length vc] 81) := ⟨_, rfl⟩
   have HB5 : Hid (Bk w5 b5 81 [.int .u8 op, .int .i64 node, .int .u8 mode, .int .i64 tab, .bool row, .int .i64 col, .int .i64 var, .int .i64 dst, .bool eq, .int .i64 fro, .int .i64 upto, .slice ka key.length kc, .slice va vals.length vc]) := by rw [hw5, hb5]; exact Lib.hid (Bk.new wo _ _)
   have HF5 : Hid (Fr wo w5 Nil) := by rw [hw5]; exact Lib.hid ((Fr.refl wo Nil).alloc _)
   have HB5N := Lib.hid hb5
   clear hx hlc hkt hvt p0 p1 p2 p3 p4 p5 p6 p7 p8 p9 p10 p11 p12
   go_upto_region 6 with (fail)
   rw [← hw5, ← hb5]
   clear hw5 hb5 q0 q1 q2 q3 q4 q5 q6 q7 q8 q9 q10 q11 q12
   have hb5lt := HB5.out.lt
   go_cut [6] from 8 to 65 (fun v6 wx => ∃ b6 ka2 kc2, v6 = .pointer (some ⟨b6, 0, none⟩) ∧ Bk wx b6 97 [.int .u8 op, .int .i64 node, .int .u8 mode, .int .i64 tab, .bool row, .int .i64 col, .int .i64 var, .int .i64 dst, .bool eq, .int .i64 fro, .int .i64 upto, .slice ka2 key.length kc2, .slice none 0 0] ∧ w5.heap.size ≤ b6 ∧ NewS w5.heap.size (fun k => k = b6) wx (fun w => TermsAt w (.slice ka2 key.length kc2) key) ∧ Fr w5 wx Nil)
   case first =>
    have k0 := KeptF.cell (w0 := w5) (show w5.cell? ⟨b5, 0, none⟩ = some _ from HB5.out.cell 0)
    have k1 := KeptF.cell (w0 := w5) (show w5.cell? ⟨b5, 1, none⟩ = some _ from HB5.out.cell 1)
    have k2 := KeptF.cell (w0 := w5) (show w5.cell? ⟨b5, 2, none⟩ = some _ from HB5.out.cell 2)
    have k3 := KeptF.cell (w0 := w5) (show w5.cell? ⟨b5, 3, none⟩ = some _ from HB5.out.cell 3)
    have k4 := KeptF.cell (w0 := w5) (show w5.cell? ⟨b5, 4, none⟩ = some _ from HB5.out.cell 4)
    have k5 := KeptF.cell (w0 := w5) (show w5.cell? ⟨b5, 5, none⟩ = some _ from HB5.out.cell 5)
    have k6 := KeptF.cell (w0 := w5) (show w5.cell? ⟨b5, 6, none⟩ = some _ from HB5.out.cell 6)
    have k7 := KeptF.cell (w0 := w5) (show w5.cell? ⟨b5, 7, none⟩ = some _ from HB5.out.cell 7)
    have k8 := KeptF.cell (w0 := w5) (show w5.cell? ⟨b5, 8, none⟩ = some _ from HB5.out.cell 8)
    have k9 := KeptF.cell (w0 := w5) (show w5.cell? ⟨b5, 9, none⟩ = some _ from HB5.out.cell 9)
    have k10 := KeptF.cell (w0 := w5) (show w5.cell? ⟨b5, 10, none⟩ = some _ from HB5.out.cell 10)
    have k11 := KeptF.cell (w0 := w5) (show w5.cell? ⟨b5, 11, none⟩ = some _ from HB5.out.cell 11)
    have HK5 := Lib.hid (HKT.out.fr0 (HF.out.trans0 (HF5.out.trans0 (Fr.refl w5 Nil).drew)))
    refine wp_region_sink 27 (KeptF w5) (by kernel_rfl) ?_
    have hS0 : KeptF w5 w5.drew := KeptF.start _
    refine tk 0 hS0 ?_
    try simp only [Act.put, sA, sB, sC]
    refine tk 1 hS0 ?_ (hy := by intro _ w; have ck0 := k0 _ w; go_simp <;> with_reducible rfl)
    try simp only [Act.put, sA, sB, sC]
    refine tk 2 hS0 ?_
    try simp only [Act.put, sA, sB, sC]
    refine tk 3 hS0 ?_ (hy := by intro _ w; have ck1 := k1 _ w; go_simp <;> with_reducible rfl)
    try simp only [Act.put, sA, sB, sC]
    refine tk 4 hS0 ?_
    try simp only [Act.put, sA, sB, sC]
    refine tk 5 hS0 ?_ (hy := by intro _ w; have ck2 := k2 _ w; go_simp <;> with_reducible rfl)
    try simp only [Act.put, sA, sB, sC]
    refine tk 6 hS0 ?_
    try simp only [Act.put, sA, sB, sC]
    refine tk 7 hS0 ?_ (hy := by intro _ w; have ck3 := k3 _ w; go_simp <;> with_reducible rfl)
    try simp only [Act.put, sA, sB, sC]
    refine tk 8 hS0 ?_
    try simp only [Act.put, sA, sB, sC]
    refine tk 9 hS0 ?_ (hy := by intro _ w; have ck4 := k4 _ w; go_simp <;> with_reducible rfl)
    try simp only [Act.put, sA, sB, sC]
    refine tk 10 hS0 ?_
    try simp only [Act.put, sA, sB, sC]
    refine tk 11 hS0 ?_ (hy := by intro _ w; have ck5 := k5 _ w; go_simp <;> with_reducible rfl)
    try simp only [Act.put, sA, sB, sC]
    refine tk 12 hS0 ?_
    try simp only [Act.put, sA, sB, sC]
    refine tk 13 hS0 ?_ (hy := by intro _ w; have ck6 := k6 _ w; go_simp <;> with_reducible rfl)
    try simp only [Act.put, sA, sB, sC]
    refine tk 14 hS0 ?_
    try simp only [Act.put, sA, sB, sC]
    refine tk 15 hS0 ?_ (hy := by intro _ w; have ck7 := k7 _ w; go_simp <;> with_reducible rfl)
    try simp only [Act.put, sA, sB, sC]
    refine tk 16 hS0 ?_
    try simp only [Act.put, sA, sB, sC]
    refine tk 17 hS0 ?_ (hy := by intro _ w; have ck8 := k8 _ w; go_simp <;> with_reducible rfl)
    try simp only [Act.put, sA, sB, sC]
    refine tk 18 hS0 ?_
    try simp only [Act.put, sA, sB, sC]
    refine tk 19 hS0 ?_ (hy := by intro _ w; have ck9 := k9 _ w; go_simp <;> with_reducible rfl)
    try simp only [Act.put, sA, sB, sC]
    refine tk 20 hS0 ?_
    try simp only [Act.put, sA, sB, sC]
    refine tk 21 hS0 ?_ (hy := by intro _ w; have ck10 := k10 _ w; go_simp <;> with_reducible rfl)
    try simp only [Act.put, sA, sB, sC]
    refine tk 22 hS0 ?_
    try simp only [Act.put, sA, sB, sC]
    refine tk 23 hS0 ?_ (hy := by intro _ w; have ck11 := k11 _ w; go_simp <;> with_reducible rfl)
    try simp only [Act.put, sA, sB, sC]
    refine wpAnyS_two (i := 24) (j := 26) rfl rfl (by kernel_rfl) (by decide) (by decide) (by rfl) (by rfl) (fun K hK => ?_) (fun K hK => ?_)
    ·go_simp
     refine (terms_any _ key _ HK5.out hkl).mono ?_
     rintro e w6 ⟨ka2, kc2, rfl, ho6, hf6⟩
     have hS1 := KeptF.next hS0 hf6
     have hsz6 := (KeptF.fr hS1).size
     have hn6 : NewS w5.heap.size (fun k => k = w6.heap.size) w6 (fun w => TermsAt w (.slice ka2 key.length kc2) key) := (NewS.terms ho6 fun k hk e => by have := (World.ownsRow.lt ho6 k hk).2; omega).low (Nat.le_refl _)
     refine hK.out _ _ hS1 ?_
     clear hK K
     try simp only [Act.put, sA, sB, sC]
     refine tk 25 hS1 ?_
     try simp only [Act.put, sA, sB, sC]
     refine on1 26 fun K hK => ?_
     go_simp
     have hS2 := KeptF.next hS1 ((Fr.refl w6 Nil).alloc (.cells #[.int .u8 0, .int .i64 0, .int .u8 0, .int .i64 0, .bool false, .int .i64 0, .int .i64 0, .int .i64 0, .bool false, .int .i64 0, .int .i64 0, .slice none 0 0, .slice none 0 0] 97))
     refine hK.out _ _ hS2 ?_
     clear hK K
     try simp only [Act.put, sA, sB, sC]
     refine wpAnyS_last (i := 27) rfl (by kernel_rfl) (by decide) (by kernel_rfl) (by rfl) fun K hK => ?_
     refine wp_store_bk 97 _ _ rfl _ _ _ [.int .u8 op, .int .i64 node, .int .u8 mode, .int .i64 tab, .bool row, .int .i64 col, .int .i64 var, .int .i64 dst, .bool eq, .int .i64 fro, .int .i64 upto, .slice ka2 key.length kc2, .slice none 0 0] _ rfl rfl rfl iI hiI hsI (Bk.new w6 97 #[.int .u8 0, .int .i64 0, .int .u8 0, .int .i64 0, .bool false, .int .i64 0, .int .i64 0, .int .i64 0, .bool false, .int .i64 0, .int .i64 0, .slice none 0 0, .slice none 0 0]) rfl (by simp [Value.oneCell']) ?_
     intro w8 hb8 hf8
     refine hK.out _ _ ?_
     clear hK K
     have hf9 : Fr w5 w8 Nil := KeptF.fr (KeptF.store hS2 hf8 hsz6)
     have hn9 := (hn6.fr0 ((Fr.refl w6 Nil).alloc (.cells #[.int .u8 0, .int .i64 0, .int .u8 0, .int .i64 0, .bool false, .int .i64 0, .int .i64 0, .int .i64 0, .bool false, .int .i64 0, .int .i64 0, .slice none 0 0, .slice none 0 0] 97))).fr hf8 (fun k _ _ hx hk => hx hk)
     have HB8 := Lib.hid hb8
     have HN9 := Lib.hid hn9
     have HF9 := Lib.hid hf9
     clear hb8 hf8 hn9 hf9 hS0 hS1 ho6 hf6 hn6 k0 k1 k2 k3 k4 k5 k6 k7 k8 k9 k10 k11
     go_wp2_with fail
     go_meet
     case rel => exact ⟨_, ka2, kc2, rfl, HB8.out, hsz6, HN9.out, HF9.out⟩
    ·go_simp
     have hS1 := KeptF.next hS0 ((Fr.refl w5.drew Nil).alloc (.cells #[.int .u8 0, .int .i64 0, .int .u8 0, .int .i64 0, .bool false, .int .i64 0, .int .i64 0, .int .i64 0, .bool false, .int .i64 0, .int .i64 0, .slice none 0 0, .slice none 0 0] 97))
     refine hK.out _ _ hS1 ?_
     clear hK K
     try simp only [Act.put, sA, sB, sC]
     refine on1 24 fun K hK => ?_
     go_simp
     refine (terms_any _ key _ (HK5.out.fr0 ((Fr.refl w5.drew Nil).alloc (.cells #[.int .u8 0, .int .i64 0, .int .u8 0, .int .i64 0, .bool false, .int .i64 0, .int .i64 0, .int .i64 0, .bool false, .int .i64 0, .int .i64 0, .slice none 0 0, .slice none 0 0] 97))) hkl).mono ?_
     rintro e w6 ⟨ka2, kc2, rfl, ho6, hf6⟩
     have hS2 := KeptF.next hS1 hf6
     have hsz6 : w5.heap.size ≤ w5.heap.size := Nat.le_refl _
     have hn6 : NewS w5.heap.size (fun k => k = w5.heap.size) w6 (fun w => TermsAt w (.slice ka2 key.length kc2) key) := (NewS.terms ho6 fun k hk e => by have h9 := (World.ownsRow.lt ho6 k hk).1; simp at h9; have h8 : w5.drew.heap.size = w5.heap.size := rfl; omega).low (by simp)
     refine hK.out _ _ hS2 ?_
     clear hK K
     try simp only [Act.put, sA, sB, sC]
     refine tk 25 hS2 ?_
     try simp only [Act.put, sA, sB, sC]
     refine wpAnyS_last (i := 27) rfl (by kernel_rfl) (by decide) (by kernel_rfl) (by rfl) fun K hK => ?_
     refine wp_store_bk 97 _ _ rfl _ _ _ [.int .u8 op, .int .i64 node, .int .u8 mode, .int .i64 tab, .bool row, .int .i64 col, .int .i64 var, .int .i64 dst, .bool eq, .int .i64 fro, .int .i64 upto, .slice ka2 key.length kc2, .slice none 0 0] _ rfl rfl rfl iI hiI hsI ((Bk.new w5.drew 97 #[.int .u8 0, .int .i64 0, .int .u8 0, .int .i64 0, .bool false, .int .i64 0, .int .i64 0, .int .i64 0, .bool false, .int .i64 0, .int .i64 0, .slice none 0 0, .slice none 0 0]).fr hf6 fun h => h) rfl (by simp [Value.oneCell']) ?_
     intro w8 hb8 hf8
     refine hK.out _ _ ?_
     clear hK K
     have hf9 : Fr w5 w8 Nil := KeptF.fr (KeptF.store hS2 hf8 (Nat.le_refl _))
     have hn9 := (hn6).fr hf8 (fun k _ _ hx hk => hx hk)
     have HB8 := Lib.hid hb8
     have HN9 := Lib.hid hn9
     have HF9 := Lib.hid hf9
     clear hb8 hf8 hn9 hf9 hS0 hS1 ho6 hf6 hn6 k0 k1 k2 k3 k4 k5 k6 k7 k8 k9 k10 k11
     go_wp2_with fail
     go_meet
     case rel => exact ⟨_, ka2, kc2, rfl, HB8.out, (Nat.le_refl _), HN9.out, HF9.out⟩
   case rest =>
    obtain ⟨b6, ka2, kc2, rfl, hb6, hlt6, hn6, hf6⟩ := hcut
    have HB6 := Lib.hid hb6
    have HN6 := Lib.hid hn6
    have HF6 := Lib.hid hf6
    have hb6lt := hb6.lt
    obtain ⟨w6, rfl⟩ : ∃ w6 : World, w6 = wc := ⟨_, rfl⟩
    clear hb6 hn6 hf6
    go_wp2_with fail
    go_loopw [7] (fun vk wr2 => ∃ (k : Nat) (va2 : Option Addr) (vc2 : Nat) (tvs : List Value), k ≤ vals.length ∧ vk = .int .i64 k ∧ Bk wr2 b6 97 [.int .u8 op, .int .i64 node, .int .u8 mode, .int .i64 tab, .bool row, .int .i64 col, .int .i64 var, .int .i64 dst, .bool eq, .int .i64 fro, .int .i64 upto, .slice ka2 key.length kc2, .slice va2 k vc2] ∧ RowI w6.heap.size (fun q => q = b6) 93 1 wr2 va2 vc2 k tvs (RVal vals) ∧ Fr w6 wr2 (fun q => q = b6)) (fun vk _ => vals.length - (intOf vk).toNat)
    case atStart => exact ⟨0, none, 0, [], by omega, rfl, HB6.out, RowI.nil _ _ _ _ _ _, Fr.refl _ _⟩
    case round =>
     obtain ⟨k, va2, vc2, tvs, hk, rfl, hb, hr2, hf2⟩ := hrel
     have HBK := Lib.hid hb
     have HR2 := Lib.hid hr2
     have HF2 := Lib.hid hf2
     obtain ⟨wo2, rfl⟩ : ∃ wo2 : World, wo2 = wr := ⟨_, rfl⟩
     have c512 : wo2.cell? ⟨b5, 12, none⟩ = some (.slice va vals.length vc) := (HB5.out.fr (HF6.out.of_nil.trans HF2.out fun _ _ h => h) (fun e => by have e : b5 = b6 := e; omega)).cell 12
     have HC5 := Lib.hid c512
     clear hb hr2 hf2
     by_cases hlt2 : k < vals.length
     ·have hvx := List.getElem?_eq_getElem hlt2
      obtain ⟨tb, toff, xa, xc, rfl, hx0, hxt⟩ := HVT.out.get k hlt2
      have hxe : vals.getD k [] = vals[k] := by rw [List.getD_eq_getElem?_getD, hvx]; rfl
      rw [hxe] at hx0 hxt
      generalize vals[k] = x at hvx hx0 hxt
      have hxl : x.length ≤ 100000 := HVF.out.2 x (List.mem_of_getElem? hvx)
      have HVX := Lib.hid hvx
      have hfw : Fr w wo2 Nil := ((HF.out.trans0 (HF5.out.trans0 HF6.out)).of_nil.trans HF2.out fun _ _ h => h).mono fun q hq e => by have e : q = b6 := e; have h1 := HF.out.size; have h2 := HF5.out.size; omega
      have HFW2 := Lib.hid hfw
      have HTBL : Hid (tb < w6.heap.size) := Lib.hid (by have h1 : tb < w.heap.size := World.block_lt_of_cell? w _ hx0; have h2 := HF.out.size; have h3 := HF5.out.size; have h4 := HF6.out.size; omega)
      have HX0 := Lib.hid (hfw.cell hx0 fun h => h)
      have HXT := Lib.hid (hxt.fr0 hfw)
      have C612 := Lib.hid (show wo2.cell? ⟨b6, 12, none⟩ = some (.slice va2 k vc2) from HBK.out.cell 12)
      have F612 := Lib.hid (HBK.out.free 12)
      have hkk : (k : Int) < (vals.length : Int) := by omega
      clear hvx hx0 hxt hxe hfw
      go_wp2_with fail
      clear c512
      refine wp_region_sink 11 (fun w : World => w.cell? ⟨b6, 12, none⟩ = some (.slice va2 k vc2) ∧ w.cell? ⟨b5, 12, none⟩ = some (.slice (some ⟨tb, toff, none⟩) vals.length vc) ∧ w.cell? ⟨tb, toff + k, none⟩ = some (.slice xa x.length xc)) (by kernel_rfl) ?_
      have hSa : (fun w : World => w.cell? ⟨b6, 12, none⟩ = some (.slice va2 k vc2) ∧ w.cell? ⟨b5, 12, none⟩ = some (.slice (some ⟨tb, toff, none⟩) vals.length vc) ∧ w.cell? ⟨tb, toff + k, none⟩ = some (.slice xa x.length xc)) wo2.drew := ⟨C612.out, HC5.out, HX0.out⟩
      have k1 := fun (w : World) (h : (fun w : World => w.cell? ⟨b6, 12, none⟩ = some (.slice va2 k vc2) ∧ w.cell? ⟨b5, 12, none⟩ = some (.slice (some ⟨tb, toff, none⟩) vals.length vc) ∧ w.cell? ⟨tb, toff + k, none⟩ = some (.slice xa x.length xc)) w) => h.1
      have k2 := fun (w : World) (h : (fun w : World => w.cell? ⟨b6, 12, none⟩ = some (.slice va2 k vc2) ∧ w.cell? ⟨b5, 12, none⟩ = some (.slice (some ⟨tb, toff, none⟩) vals.length vc) ∧ w.cell? ⟨tb, toff + k, none⟩ = some (.slice xa x.length xc)) w) => h.2.1
      have k3 := fun (w : World) (h : (fun w : World => w.cell? ⟨b6, 12, none⟩ = some (.slice va2 k vc2) ∧ w.cell? ⟨b5, 12, none⟩ = some (.slice (some ⟨tb, toff, none⟩) vals.length vc) ∧ w.cell? ⟨tb, toff + k, none⟩ = some (.slice xa x.length xc)) w) => h.2.2
      refine tk 0 hSa ?_
      try simp only [Act.put, sA, sB, sC]
      refine tk 1 hSa ?_ (hy := by intro _ w; have ck1 := k1 _ w; go_simp <;> with_reducible rfl)
      try simp only [Act.put, sA, sB, sC]
      refine tk 2 hSa ?_
      try simp only [Act.put, sA, sB, sC]
      refine tk 3 hSa ?_ (hy := by intro _ w; have ck2 := k2 _ w; go_simp <;> with_reducible rfl)
      try simp only [Act.put, sA, sB, sC]
      refine tk 4 hSa ?_
      refine tk 5 hSa ?_
      try simp only [Act.put, sA, sB, sC]
      refine tk 6 hSa ?_ (hy := by intro _ w; have ck3 := k3 _ w; go_simp <;> with_reducible rfl)
      try simp only [Act.put, sA, sB, sC]
      refine on1 7 fun K hK => ?_
      go_simp
      refine (terms_any _ x _ (HXT.out.fr0 (Fr.refl wo2 Nil).drew) hxl).mono ?_
      rintro e w7 ⟨xa2, xc2, rfl, ho7, hf7⟩
      have hf7d : Fr wo2 w7 Nil := (Fr.refl wo2 Nil).drew.trans0 hf7
      have hSb : (fun w : World => w.cell? ⟨b6, 12, none⟩ = some (.slice va2 k vc2) ∧ w.cell? ⟨b5, 12, none⟩ = some (.slice (some ⟨tb, toff, none⟩) vals.length vc) ∧ w.cell? ⟨tb, toff + k, none⟩ = some (.slice xa x.length xc)) w7 := ⟨hf7d.cell C612.out fun h => h, hf7d.cell HC5.out fun h => h, hf7d.cell HX0.out fun h => h⟩
      refine hK.out _ _ hSb ?_
      clear hK K
      try simp only [Act.put, sA, sB, sC]
      refine on1 8 fun K hK => ?_
      go_simp
      have hf8 : Fr wo2 (w7.alloc (.cells #[.slice xa2 x.length xc2] 93)) Nil := hf7d.alloc _
      have hSc : (fun w : World => w.cell? ⟨b6, 12, none⟩ = some (.slice va2 k vc2) ∧ w.cell? ⟨b5, 12, none⟩ = some (.slice (some ⟨tb, toff, none⟩) vals.length vc) ∧ w.cell? ⟨tb, toff + k, none⟩ = some (.slice xa x.length xc)) (w7.alloc (.cells #[.slice xa2 x.length xc2] 93)) := ⟨hf8.cell C612.out fun h => h, hf8.cell HC5.out fun h => h, hf8.cell HX0.out fun h => h⟩
      refine hK.out _ _ hSc ?_
      clear hK K
      try simp only [Act.put, sA, sB, sC]
      have hr8 := HR2.out.fr0 hf8
      have hbs : w6.heap.size ≤ wo2.heap.size := HF2.out.size
      have hn8 : NewS w6.heap.size (fun q => q = b6 ∨ (Value.slice va2 k vc2).ownBlock = some q) (w7.alloc (.cells #[.slice xa2 x.length xc2] 93)) (RVal vals k [.slice xa2 x.length xc2]) := by
       have h1 : NewS w6.heap.size (fun q => q = b6 ∨ (Value.slice va2 k vc2).ownBlock = some q) w7 (fun w => TermsAt w (.slice xa2 x.length xc2) x) := (NewS.terms (X := fun q => q = b6 ∨ (Value.slice va2 k vc2).ownBlock = some q) ho7 fun q hq e => by
        have h2 : wo2.heap.size ≤ q := (World.ownsRow.lt ho7 q hq).1
        rcases e with e | e
        ·omega
        ·have := (World.ownsRow.lt HR2.out.own q e).2
         omega).low hbs
       exact (h1.fr0 ((Fr.refl w7 Nil).alloc _)).imp fun w hw => ⟨x, xa2, xc2, HVX.out, rfl, hw⟩
      refine on1 9 fun K hK => ?_
      refine wp_app (P := Tryz.prog) _ _ _ 95 rfl Tryz.sltDVals _ rfl (own_mono hr8.own (Nat.zero_le _)) _ rfl (SlAt.of_block (Bk.new w7 _ _)) (by simp [Value.oneCell']) (by have := HVF.out.1; omega) ?_
      intro g2 cap2 W1 ho2 hgr hat
      obtain ⟨hr9, hf9⟩ := hr8.app (Nat.le_trans hbs hf8.size) rfl hn8 ho2 hgr hat
      have hob : ∀ q, (Value.slice va2 k vc2).ownBlock = some q → q ≠ b6 := fun q hq e => by have := (World.ownsRow.lt HR2.out.own q hq).1; omega
      have hob5 : ∀ q, (Value.slice va2 k vc2).ownBlock = some q → q ≠ b5 := fun q hq e => by have := (World.ownsRow.lt HR2.out.own q hq).1; omega
      have hobt : ∀ q, (Value.slice va2 k vc2).ownBlock = some q → q ≠ tb := fun q hq e => by
       have h1 := (World.ownsRow.lt HR2.out.own q hq).1
       have h2 := (hf9 : Fr _ _ _).size
       have h3 := HTBL.out
       omega
      have hSd : (fun w : World => w.cell? ⟨b6, 12, none⟩ = some (.slice va2 k vc2) ∧ w.cell? ⟨b5, 12, none⟩ = some (.slice (some ⟨tb, toff, none⟩) vals.length vc) ∧ w.cell? ⟨tb, toff + k, none⟩ = some (.slice xa x.length xc)) W1 := ⟨hf9.cell hSc.1 fun e => hob _ e rfl, hf9.cell hSc.2.1 fun e => hob5 _ e rfl, hf9.cell hSc.2.2 fun e => hobt _ e rfl⟩
      refine hK.out _ _ hSd ?_
      clear hK K
      try simp only [Act.put, sA, sB, sC]
      refine tk 10 hSd ?_
      try simp only [Act.put, sA, sB, sC]
      have hb9 := (HBK.out.fr hf8 fun h => h).fr hf9 (fun e => hob _ e rfl)
      have f12 := hb9.free 12
      have hst := Fr.store W1 b6 12 (.slice g2 (k + 1) cap2)
      have HB9 := Lib.hid (hb9.set 12 (.slice g2 (k + 1) cap2))
      have HR9 := Lib.hid (hr9.fr hst (fun q e => .inl e) fun q hq e => by have e : q = b6 := e; have := (World.ownsRow.lt hr9.own q hq).1; omega)
      have HFF := Lib.hid (show Fr w6 (W1.setCell ⟨b6, 12, none⟩ (.slice g2 (k + 1) cap2)) (fun q => q = b6) from ((HF2.out.trans hf8.of_nil fun _ _ h => h).trans hf9 fun q hq e => by have := (World.ownsRow.lt HR2.out.own q e).1; omega).trans hst fun q _ e => e)
      refine wpAnyS_last (i := 11) rfl (by kernel_rfl) (by decide) (by kernel_rfl) (by rfl) fun K hK => ?_
      go_simp
      refine hK.out _ _ ?_
      clear hK K f12 hb9 hst hr9 hf9 hSa hSb hSc hSd hob hob5 hobt hn8 hr8 ho2 hgr hat ho7 hf7 hf7d hf8 k1 k2 k3
      go_wp2_with fail
      go_roundw
      case rel => exact ⟨k + 1, g2, cap2, _, by omega, by go_num, HB9.out, HR9.out, HFF.out⟩
      case measure => simp [intOf]; omega
     ·obtain rfl : k = vals.length := by omega
      have hkk : ¬ (vals.length : Int) < (vals.length : Int) := by omega
      have hbs : w6.heap.size ≤ wo2.heap.size := HF2.out.size
      have h56 := HF6.out.size
      have h05 := HF5.out.size
      have h0 := HF.out.size
      have hfo : Fr wo wo2 Nil := ((HF5.out.trans0 HF6.out).of_nil.trans HF2.out fun _ _ h => h).mono fun q hq e => by have e : q = b6 := e; omega
      have hr0 := HR.out.fr0 hfo
      have hol : ∀ q, (Value.slice g i cap).ownBlock = some q → q < wo.heap.size := fun q hq => (World.ownsRow.lt HR.out.own q hq).2
      have hkn := (HN6.out.fr HF2.out fun q _ _ hx hq => hx hq)
      have hvn : NewS w5.heap.size (fun q => q = b6) wo2 _ := (vals_done HR2.out fun q hq e => by have := (World.ownsRow.lt HR2.out.own q hq).1; omega).low h56
      have hnn : NewS w.heap.size (fun q => False ∨ (Value.slice g i cap).ownBlock = some q) wo2 (RIns L i [.int .u8 op, .int .i64 node, .int .u8 mode, .int .i64 tab, .bool row, .int .i64 col, .int .i64 var, .int .i64 dst, .bool eq, .int .i64 fro, .int .i64 upto, .slice ka2 key.length kc2, .slice va2 vals.length vc2]) := (((hkn.and hvn).imp fun w hw => (show RIns L i [.int .u8 op, .int .i64 node, .int .u8 mode, .int .i64 tab, .bool row, .int .i64 col, .int .i64 var, .int .i64 dst, .bool eq, .int .i64 fro, .int .i64 upto, .slice ka2 key.length kc2, .slice va2 vals.length vc2] w from ⟨_, _, _, HX.out, rfl, hw.1, hw.2⟩)).weak (X' := fun _ => False) (fun _ h => h.elim)).above (X' := fun q => False ∨ (Value.slice g i cap).ownBlock = some q) (fun q hq => hq.elim (fun h => h.elim) fun h => by have := hol q h; omega) |>.low (by omega)
      have HNN := Lib.hid hnn
      have HR0 := Lib.hid hr0
      have HFO := Lib.hid hfo
      clear hr0 hkn hvn hnn hfo
      have z0 : wo2.cell? ⟨b6, 0, none⟩ = some _ := HBK.out.cell 0
      have z1 : wo2.cell? ⟨b6, 1, none⟩ = some _ := HBK.out.cell 1
      have z2 : wo2.cell? ⟨b6, 2, none⟩ = some _ := HBK.out.cell 2
      have z3 : wo2.cell? ⟨b6, 3, none⟩ = some _ := HBK.out.cell 3
      have z4 : wo2.cell? ⟨b6, 4, none⟩ = some _ := HBK.out.cell 4
      have z5 : wo2.cell? ⟨b6, 5, none⟩ = some _ := HBK.out.cell 5
      have z6 : wo2.cell? ⟨b6, 6, none⟩ = some _ := HBK.out.cell 6
      have z7 : wo2.cell? ⟨b6, 7, none⟩ = some _ := HBK.out.cell 7
      have z8 : wo2.cell? ⟨b6, 8, none⟩ = some _ := HBK.out.cell 8
      have z9 : wo2.cell? ⟨b6, 9, none⟩ = some _ := HBK.out.cell 9
      have z10 : wo2.cell? ⟨b6, 10, none⟩ = some _ := HBK.out.cell 10
      have z11 : wo2.cell? ⟨b6, 11, none⟩ = some _ := HBK.out.cell 11
      have z12 : wo2.cell? ⟨b6, 12, none⟩ = some _ := HBK.out.cell 12
      go_wp2_with (at_builtin; refine wpList_app _ rfl _ _ 35 rfl Tryz.sltDCode _ rfl (own_mono (HR0.out.fr0 ((Fr.refl wo2 Nil).alloc (.cells #[.int .u8 op, .int .i64 node, .int .u8 mode, .int .i64 tab, .bool row, .int .i64 col, .int .i64 var, .int .i64 dst, .bool eq, .int .i64 fro, .int .i64 upto, .slice ka2 key.length kc2, .slice va2 vals.length vc2] 97))).own (Nat.zero_le _)) _ rfl (SlAt.of_block (Bk.new wo2 _ _)) (by simp [Value.oneCell']) (by omega) ?_; intro g2 cap2 W1 ho2 hgr hat; obtain ⟨hr9, hf9⟩ := (HR0.out.fr0 ((Fr.refl wo2 Nil).alloc (.cells #[.int .u8 op, .int .i64 node, .int .u8 mode, .int .i64 tab, .bool row, .int .i64 col, .int .i64 var, .int .i64 dst, .bool eq, .int .i64 fro, .int .i64 upto, .slice ka2 key.length kc2, .slice va2 vals.length vc2] 97))).app (by simp; omega) rfl (HNN.out.fr0 ((Fr.refl wo2 Nil).alloc (.cells #[.int .u8 op, .int .i64 node, .int .u8 mode, .int .i64 tab, .bool row, .int .i64 col, .int .i64 var, .int .i64 dst, .bool eq, .int .i64 fro, .int .i64 upto, .slice ka2 key.length kc2, .slice va2 vals.length vc2] 97))) ho2 hgr hat; have HR9 := Lib.hid hr9; have HF9 := Lib.hid hf9; clear hr9 hf9 ho2 hgr hat)
      go_roundw
      case rel => exact ⟨i + 1, g2, cap2, _, by omega, by go_num, rfl, HR9.out, ((HF.out.trans0 HFO.out).alloc _).trans HF9.out fun q hq e => by have h9 := (World.ownsRow.lt HR.out.own q e).1; omega⟩
      case measure => simp [intOf]; omega
  ·obtain rfl : i = L.length := by omega
   have hii : ¬ (L.length : Int) < (L.length : Int) := by omega
   go_wp2_with fail
   go_ret
   exact ⟨g, cap, rfl, code_done HR.out (fun _ _ h => h), HF.out⟩
end Go.Proofs.YtgpekgnhbccnoaaGreat
