/-
  Walks of container/heap's Push and Pop at *waits.ready.
  No condition but sizes.
-/
import Derived.Test.YtkeiphmhckkniaaWtHeap
import Derived.Test.YtkeiphmhckkniaaSink
namespace Go.Proofs.Ytkeiphmhckkniaa
open Go Go.RowKit

theorem Try.sltISl : SlT Try.prog 45 3 1 8 := SlT.mk Try.underlying45 (z := .int .i64 0) (by kernel_rfl) rfl (by decide) (by decide)
theorem asInt (v : Value) (w : World) : (Instr.typeAssert (.iface 3 v) 20 3 false).run Try.prog w = .ok v w := by kernel_rfl
theorem mkInt (x : Value) (w : World) : (Instr.makeInterface 3 x).run Try.prog w = .ok (.iface 3 x) w := run_makeInterface w 3 x (by kernel_rfl)
theorem mkRdy (x : Value) (w : World) : (Instr.makeInterface 44 x).run Try.prog w = .ok (.iface 44 x) w := run_makeInterface w 44 x (by kernel_rfl)
attribute [local go_sem] rdy_len rdy_less rdy_swap rdy_push rdy_pop asInt mkInt mkRdy
/-- The heap as a thing. -/
def hpT (rb : Nat) (l : List Int) : Thing where
  At w S := ∃ v, Bk w rb 47 [v] ∧ OwnInts w 3 v l ∧ v.ownBlock ≠ some rb ∧ ∀ k, S k ↔ (k = rb ∨ v.ownBlock = some k)
  fr h hf hd := by
    obtain ⟨v, h1, h2, h3, h4⟩ := h
    exact ⟨v, h1.fr hf (hd rb ((h4 rb).2 (.inl rfl))), h2.fr hf (fun k hk => hd k ((h4 k).2 (.inr hk))), h3, h4⟩
  lt h k hk := by
    obtain ⟨v, h1, h2, h3, h4⟩ := h
    rcases (h4 k).1 hk with rfl | hk
    · exact h1.lt
    · exact h2.lt k hk
theorem cells_hp (rb : Nat) (l : List Int) : CellsT (hpT rb l) := fun w S h k hk => by
  obtain ⟨v, h1, h2, h3, h4⟩ := h
  rcases (h4 k).1 hk with rfl | hk
  · exact ⟨_, _, _, h1⟩
  · exact cellsRow h2 hk
def HpRet (rb : Nat) (R : Ending → List Int → Prop) (S : Nat → Prop) (w : World) (e : Ending) (w' : World) : Prop := ∃ l' S', (hpT rb l').At w' S' ∧ (∀ k, S' k → S k ∨ w.heap.size ≤ k) ∧ Fr w w' S ∧ R e l'
theorem sl_one {w : World} {sb : Nat} {e : TypeId} {u : Value} (hb : Bk w sb e [u]) : SlAt w 1 (.slice (some ⟨sb, 0, none⟩) 1 1) 1 [u] := by
  refine ⟨rfl, .inr ⟨⟨sb, 0, none⟩, 1, rfl, fun k v hv => ?_⟩⟩
  rw [Addr.add_lit, Nat.zero_add, hb.cell k]
  exact hv
def PushRet (rb : Nat) (v : Value) (l : List Int) (x : Int) (w : World) (e : Ending) (w' : World) : Prop := e = .returned (.tuple #[]) ∧ ∃ b c, RdAt w' rb b (l.length + 1) c (l ++ [x]) ∧ Fr w w' (fun k => k = rb ∨ v.ownBlock = some k) ∧ (v.ownBlock = some b ∨ w.heap.size ≤ b)
theorem rpush_any (rb : Nat) (v : Value) (l : List Int) (x : Int) (w : World) (hb : Bk w rb 47 [v]) (ho : OwnInts w 3 v l) (hne : v.ownBlock ≠ some rb) (hl : l.length ≤ 100000) :
    Calls Try.prog 85 #[rdyP rb, .iface 3 (.int .i64 x)] w (PushRet rb v l x w) := by
  have q0 := hb.cell 0
  have HB := Lib.hid hb
  have HO := Lib.hid ho
  have HNE := Lib.hid hne
  clear hb ho hne
  go_enter Try.func85, Try.ntmps85
  go_wp2_with fail
  refine wp_region_sink 11 (fun w' : World => w'.cell? ⟨rb, 0, none⟩ = some v) (by kernel_rfl) ?_
  have hS : (fun w' : World => w'.cell? ⟨rb, 0, none⟩ = some v) w.drew := q0
  refine wpAnyS_take (i := 0) (v := ?_) rfl (by kernel_rfl) (fun _ _ _ h => h) (by rfl) hS ?_ ?_
  rotate_left
  · intro w' hS'
    (try dsimp only at hS')
    go_simp <;> with_reducible rfl
  try simp only [Act.put, List.setIfInBounds_toArray, List.set_cons_zero, List.set_cons_succ]
  refine wpAnyS_take (i := 1) (v := ?_) rfl (by kernel_rfl) (fun _ _ _ h => h) (by rfl) hS ?_ ?_
  rotate_left
  · intro w' hS'
    (try dsimp only at hS')
    go_simp <;> with_reducible rfl
  try simp only [Act.put, List.setIfInBounds_toArray, List.set_cons_zero, List.set_cons_succ]
  refine wpAnyS_take (i := 2) (v := ?_) rfl (by kernel_rfl) (fun _ _ _ h => h) (by rfl) hS ?_ ?_
  rotate_left
  · intro w' hS'
    (try dsimp only at hS')
    go_simp <;> with_reducible rfl
  try simp only [Act.put, List.setIfInBounds_toArray, List.set_cons_zero, List.set_cons_succ]
  refine wpAnyS_take (i := 3) (v := ?_) rfl (by kernel_rfl) (fun _ _ _ h => h) (by rfl) hS ?_ ?_
  rotate_left
  · intro w' hS'
    (try dsimp only at hS')
    go_simp <;> with_reducible rfl
  try simp only [Act.put, List.setIfInBounds_toArray, List.set_cons_zero, List.set_cons_succ]
  refine wpAnyS_take (i := 4) (v := ?_) rfl (by kernel_rfl) (fun _ _ _ h => h) (by rfl) hS ?_ ?_
  rotate_left
  · intro w' hS'
    (try dsimp only at hS')
    go_simp <;> with_reducible rfl
  try simp only [Act.put, List.setIfInBounds_toArray, List.set_cons_zero, List.set_cons_succ]
  refine wpAnyS_take (i := 5) (v := ?_) rfl (by kernel_rfl) (fun _ _ _ h => h) (by rfl) hS ?_ ?_
  rotate_left
  · intro w' hS'
    (try dsimp only at hS')
    go_simp <;> with_reducible rfl
  try simp only [Act.put, List.setIfInBounds_toArray, List.set_cons_zero, List.set_cons_succ]
  refine wpAnyS_take (i := 6) (v := ?_) rfl (by kernel_rfl) (fun _ _ _ h => h) (by rfl) hS ?_ ?_
  rotate_left
  · intro w' hS'
    (try dsimp only at hS')
    go_simp <;> with_reducible rfl
  try simp only [Act.put, List.setIfInBounds_toArray, List.set_cons_zero, List.set_cons_succ]
  refine wpAnyS_one (i := 7) rfl (by kernel_rfl) (by decide) (by rfl) fun K hK => ?_
  go_simp
  have HF1 : Hid (Fr w (w.alloc (.cells #[.int .i64 x] 3)).drew Nil) := Fr.drew ((Fr.refl w Nil).alloc _)
  have HB1 := Lib.hid (HB.out.fr HF1.out (fun h => h))
  have HO1 := Lib.hid (HO.out.fr HF1.out (fun _ _ h => h))
  have HSL : Hid (Bk (w.alloc (.cells #[.int .i64 x] 3)).drew w.heap.size 3 [.int .i64 x]) := (Bk.new w 3 #[.int .i64 x]).drew
  refine hK.out _ _ (HB1.out.cell 0) ?_
  clear hK K hS q0
  try simp only [Act.put, List.setIfInBounds_toArray, List.set_cons_zero, List.set_cons_succ]
  generalize (w.alloc (.cells #[.int .i64 x] 3)).drew = W1 at *
  refine wpAnyS_one (i := 8) rfl (by kernel_rfl) (by decide) (by rfl) fun K hK => ?_
  refine wp_app _ _ _ _ (by rfl) Try.sltISl v (by rfl) HO1.out _ (by rfl) (sl_one HSL.out) (fun u hu => by rw [List.mem_singleton.1 hu]; rfl) (by omega) fun g cap w2 h2 h3 h4 => ?_
  have hg : Fr W1 w2 (fun k => v.ownBlock = some k) := (Fr.refl _ _).grown h3 fun k hk _ => hk
  have HB2 := Lib.hid (HB1.out.fr hg HNE.out)
  have q2 := HB2.out.cell 0
  have f2 := HB2.out.free 0
  have HG : Hid (∃ b c, (.slice g (l.length + 1) cap : Value) = .slice (some ⟨b, 0, none⟩) (l.length + 1) c ∧ OwnInts w2 3 (.slice (some ⟨b, 0, none⟩) (l.length + 1) c) (l ++ [x]) ∧ (v.ownBlock = some b ∨ w.heap.size ≤ b) ∧ b ≠ rb) := by
    have e1 : l.length + 1 = (l ++ [x]).length := by simp
    have h5 : OwnInts w2 3 (.slice g (l.length + 1) cap) (l ++ [x]) := by unfold OwnInts; rw [List.map_append, ← e1]; exact h2
    obtain ⟨b, c, hv, _⟩ := h5.form (by simp)
    rw [← e1] at hv
    simp only [Value.slice.injEq, true_and] at hv
    obtain ⟨rfl, rfl⟩ := hv
    refine Lib.hid ⟨b, cap, rfl, h5, ?_⟩
    rcases h4 with h4 | h4
    · have h6 : v.ownBlock = some b := h4.symm
      exact ⟨.inl h6, fun e => HNE.out (by rw [← e]; exact h6)⟩
    · cases h4
      exact ⟨.inr HF1.out.size, fun e => by have e2 : W1.heap.size = rb := e; have := HB.out.lt; have := HF1.out.size; omega⟩
  have HFF := Lib.hid (((HF1.out.of_nil (S := fun k => k = rb ∨ v.ownBlock = some k)).trans hg fun j _ h => .inr h).setCell (p := ⟨rb, 0, none⟩) (fun _ => .inl rfl) (.slice g (l.length + 1) cap))
  have hS2 : (fun w' : World => w'.cell? ⟨rb, 0, none⟩ = some v) w2 := q2
  refine hK.out _ _ hS2 ?_
  clear hK K h2 h3 h4 hg
  try simp only [Act.put, List.setIfInBounds_toArray, List.set_cons_zero, List.set_cons_succ]
  refine wpAnyS_take (i := 9) (v := ?_) rfl (by kernel_rfl) (fun _ _ _ h => h) (by rfl) hS2 ?_ ?_
  rotate_left
  · intro w' hS'
    (try dsimp only at hS')
    go_simp <;> with_reducible rfl
  try simp only [Act.put, List.setIfInBounds_toArray, List.set_cons_zero, List.set_cons_succ]
  refine wpAnyS_take (i := 10) (v := ?_) rfl (by kernel_rfl) (fun _ _ _ h => h) (by rfl) hS2 ?_ ?_
  rotate_left
  · intro w' hS'
    (try dsimp only at hS')
    go_simp <;> with_reducible rfl
  try simp only [Act.put, List.setIfInBounds_toArray, List.set_cons_zero, List.set_cons_succ]
  refine wpAnyS_last (i := 11) rfl (by kernel_rfl) (by decide) (by kernel_rfl) (by rfl) fun K hK => ?_
  go_simp
  refine hK.out _ _ ?_
  clear hK K
  go_wp2_with fail
  go_end0
  obtain ⟨b, c, hv, h5, h6, h7⟩ := HG.out
  refine ⟨rfl, b, c, ⟨?_, ?_, h7⟩, HFF.out, h6⟩
  · rw [hv]; exact HB2.out.set 0 _
  · exact h5.fr (Fr.store _ _ _ _) fun k hk e => h7 (by cases hk; exact e)
def PopRet (rb b n c : Nat) (l : List Int) (x : Int) (w : World) (e : Ending) (w' : World) : Prop := e = .returned (.iface 3 (.int .i64 x)) ∧ RdAt w' rb b n c l ∧ Fr w w' (fun k => k = rb)
theorem rpop_any (rb b n c : Nat) (l : List Int) (x : Int) (w : World) (h : RdAt w rb b (n + 1) c (l ++ [x])) (hl : l.length ≤ 100000) :
    Calls Try.prog 84 #[rdyP rb] w (PopRet rb b n c l x w) := by
  have hn : n = l.length := by have := h.len; simp at this; omega
  have q0 := h.box.cell 0
  have f0 := h.box.free 0
  have q1 := h.own.cell h.len n (by simp; omega)
  have e1 : (l ++ [x]).getD n 0 = x := by rw [hn, List.getD_eq_getElem?_getD]; simp
  rw [e1] at q1
  have H := Lib.hid h
  have HN := Lib.hid hn
  have hnl : n ≤ 100000 := by omega
  have hc : n + 1 ≤ c := by
    have h5 := h.own
    rcases h5.2 with ⟨e, _⟩ | ⟨_, _, _, e, _, _, h6, _⟩
    · simp at e
    · simp at e
      obtain ⟨_, e2, e3⟩ := e
      have := h.len
      omega
  clear h e1 hn
  go_enter Try.func84, Try.ntmps84
  go_wp2_with fail
  go_ret
  have hn2 := HN.out
  subst hn2
  have h9 : OwnInts w 3 (.slice (some ⟨b, 0, none⟩) l.length c) l := by
    have h := H.out.own
    unfold OwnInts at h ⊢
    rw [List.map_append, List.length_append] at h
    exact ownsRow_pop (by simp) h
  exact ⟨rfl, ⟨H.out.box.set 0 _, h9.fr (Fr.store w rb 0 _) (fun k hk e => H.out.ne (by cases hk; exact e)), H.out.ne⟩, Fr.store w rb 0 _⟩
set_option maxHeartbeats 1000000 in
theorem hpush_any (rb : Nat) (l : List Int) (x : Int) (w : World) (S : Nat → Prop) (h : (hpT rb l).At w S) (hh : HeapN l l.length) (hl : l.length ≤ 10000) :
    Calls Try.prog 27 #[rdyI rb, .iface 3 (.int .i64 x)] w (HpRet rb (fun e l' => e = .returned (.tuple #[]) ∧ l'.Perm (x :: l) ∧ HeapN l' l'.length) S w) := by
  obtain ⟨v, hb, ho, hne, hS⟩ := h
  have HB := Lib.hid hb
  have HO := Lib.hid ho
  have HNE := Lib.hid hne
  have HS := Lib.hid hS
  have HH := Lib.hid hh
  clear hb ho hne hS hh
  go_enter Try.func27, Try.ntmps27
  go_wp2_with fail
  refine (rpush_any rb v l x w HB.out HO.out HNE.out (by omega)).mono ?_
  rintro e w1 ⟨rfl, b, c, hrd, hf, hat⟩
  have HRD := Lib.hid hrd
  have HF := Lib.hid hf
  have HAT := Lib.hid hat
  have q0 := hrd.box.cell 0
  clear hrd hf hat
  go_wp2_with fail
  refine (islen_any _ _ _ _).mono ?_
  rintro e w2 ⟨rfl, rfl⟩
  go_wp2_with fail
  refine (up_any rb b (l.length + 1) c l.length (l ++ [x]) w1 HRD.out (HeapUp.push HH.out x) (by simp) (by simp; omega)).mono ?_
  rintro e w2 ⟨rfl, l', hrd2, hp2, hh2, hf2⟩
  have HRD2 := Lib.hid hrd2
  have HP2 := Lib.hid hp2
  have HH2 := Lib.hid hh2
  have HF2 := Lib.hid hf2
  clear hrd2 hp2 hh2 hf2
  go_wp2_with fail
  go_end0
  refine ⟨l', fun k => k = rb ∨ k = b, ⟨_, HRD2.out.box, ?_, fun e => HRD2.out.ne (by cases e; rfl), fun k => ?_⟩, ?_, ?_, rfl, ?_, HH2.out⟩
  · have := HRD2.out.own; exact this
  · exact ⟨fun h => h.imp id fun e => by rw [e]; rfl, fun h => h.imp id fun e => by cases e; rfl⟩
  · rintro k (rfl | rfl)
    · exact .inl ((HS.out k).2 (.inl rfl))
    · rcases HAT.out with e | e
      · exact .inl ((HS.out k).2 (.inr e))
      · exact .inr e
  · refine (HF.out.mono fun k _ hk => (HS.out k).2 hk).trans HF2.out fun k hk e => ?_
    rcases HAT.out with e2 | e2
    · exact (HS.out k).2 (.inr (by rw [e]; exact e2))
    · omega
  · exact HP2.out.trans (List.perm_append_singleton x l)
set_option maxHeartbeats 1000000 in
theorem hpop_any (rb : Nat) (l : List Int) (w : World) (S : Nat → Prop) (h : (hpT rb l).At w S) (hh : HeapN l l.length) (h0 : 0 < l.length) (hl : l.length ≤ 10000) :
    Calls Try.prog 29 #[rdyI rb] w (HpRet rb (fun e l' => e = .returned (.iface 3 (.int .i64 (l.getD 0 0))) ∧ (l.getD 0 0 :: l').Perm l ∧ HeapN l' l'.length) S w) := by
  obtain ⟨v, hb, ho, hne, hS⟩ := h
  obtain ⟨b, c, rfl, hc⟩ := ho.form h0
  obtain ⟨n, hn⟩ : ∃ n, l.length = n + 1 := ⟨l.length - 1, by omega⟩
  have hrd : RdAt w rb b (n + 1) c l := ⟨by rw [← hn]; exact hb, by rw [← hn]; exact ho, fun e => hne (by rw [e]; rfl)⟩
  have q0 := hrd.box.cell 0
  have HRD := Lib.hid hrd
  have HS : Hid (S rb ∧ S b) := Lib.hid ⟨(hS rb).2 (.inl rfl), (hS b).2 (.inr rfl)⟩
  rw [hn] at hh
  have HH := Lib.hid hh
  have HN := Lib.hid hn
  have hnl : n ≤ 10000 := by omega
  clear hb ho hne hS hrd hh h0 hn hc hl
  go_enter Try.func29, Try.ntmps29
  go_wp2_with fail
  refine (islen_any _ _ _ _).mono ?_
  rintro e w2 ⟨rfl, rfl⟩
  go_wp2_with fail
  refine (isswap_any b (n + 1) c 0 n l w HRD.out.own HRD.out.len (by omega) (by omega)).mono ?_
  rintro e w2 ⟨rfl, ho2, hf2⟩
  have HF2 := Lib.hid hf2
  have HRD2 := Lib.hid (HRD.out.to ho2 hf2)
  have q0 := HRD2.out.box.cell 0
  clear ho2 hf2
  go_wp2_with fail
  refine (down_any rb b (n + 1) c n (swapI l 0 n) w2 HRD2.out (HeapDn.pop HN.out HH.out) (by rw [swapI_len]; have := HN.out; omega) (by rw [swapI_len]; have := HN.out; omega)).mono ?_
  rintro e w3 ⟨_, rfl, l', hrd3, hs3, hh3, hf3⟩
  obtain ⟨-, hl2, hp2⟩ := pop_rest HN.out hs3
  have hlen3 : (l'.take n).length = n := by have := hs3.len; rw [swapI_len] at this; have := HN.out; simp; omega
  have hh4 := hh3.take (by have := hs3.len; rw [swapI_len] at this; have := HN.out; omega)
  rw [hl2] at hrd3
  generalize l'.take n = l4 at *
  generalize hx : l.getD 0 0 = x at *
  have HX := Lib.hid hx
  clear hx
  have HRD3 := Lib.hid hrd3
  have HP := Lib.hid hp2
  have HH4 := Lib.hid hh4
  have HF3 := Lib.hid (HF2.out.transS hf3)
  have HL4 := Lib.hid hlen3
  clear hs3 hh3 hrd3 hp2 hh4 hf3 hl2 hlen3 q0
  go_wp2_with fail
  refine (rpop_any rb b n c l4 x w3 HRD3.out (by have := HL4.out; omega)).mono ?_
  rintro e w4 ⟨rfl, hrd4, hf4⟩
  have HRD4 := Lib.hid hrd4
  have HF4 := Lib.hid hf4
  clear hrd4 hf4
  go_wp2_with fail
  go_ret
  have hx := HX.out
  subst hx
  refine ⟨l4, fun k => k = rb ∨ k = b, ⟨_, HRD4.out.box, ?_, fun e => HRD4.out.ne (by cases e; rfl), fun k => ?_⟩, ?_, ?_, rfl, HP.out, HH4.out⟩
  · have := HRD4.out.own; exact this
  · exact ⟨fun h => h.imp id fun e => by rw [e]; rfl, fun h => h.imp id fun e => by cases e; rfl⟩
  · rintro k (rfl | rfl)
    · exact .inl HS.out.1
    · exact .inl HS.out.2
  · exact (HF3.out.mono fun k _ hk => by rw [hk]; exact HS.out.2).trans HF4.out fun k _ e => by rw [e]; exact HS.out.1
end Go.Proofs.Ytkeiphmhckkniaa
