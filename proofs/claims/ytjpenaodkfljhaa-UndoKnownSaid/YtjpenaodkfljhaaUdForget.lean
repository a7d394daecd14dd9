/-
  The log of undoing: walks of Forget, Touched.
  No condition but sizes.
-/
import Derived.Test.YtjpenaodkfljhaaUdBack
import Derived.Laws.EntriesVeiled
namespace Go.Proofs.Ytjpenaodkfljhaa
open Go Go.RowKit Go.Maps

theorem bk_ne_map {w : World} {lb mb : Nat} {e : TypeId} {cs : List Value} {κ α : Type} {P : Program} {k : TypeId} {key : κ → Lit} {enc : α → Value} {M : List (κ × α)} (h : Bk w lb e cs) (hm : MapAt P k key enc w mb M) : lb ≠ mb := fun e => by
  subst e
  obtain ⟨D, ⟨es, ck, hm, _⟩, _⟩ := hm
  unfold Bk at h
  rw [h] at hm; cases hm
def UForgetRet (lb : Nat) (most : Int) (L : List (Int × Ent)) (S : Nat → Prop) (who : Int) (w : World) (e : Ending) (w' : World) : Prop := e = .returned (.tuple #[]) ∧ LogAt w' lb most (forgetL L who) S ∧ Fr w w' S
set_option maxRecDepth 100000 in
set_option maxHeartbeats 2000000 in
theorem uforget_any {lb : Nat} {most : Int} {L : List (Int × Ent)} {S : Nat → Prop} (who : Int) (w : World) (h : LogAt w lb most L S) (hw : (Lit.int .i64 who).wf = true) (hl : L.length ≤ 100000) :
    Calls Try.prog 37 #[lptr lb, .int .i64 who] w (UForgetRet lb most L S who w) := by
  obtain ⟨mb, M0, hG, hLe⟩ := h
  obtain ⟨va, vc, hv⟩ := (SlAt.of_own (hG.at who).1.row).1.shape
  obtain ⟨n, hn⟩ : ∃ n, (ofM M0 who).es.length = n := ⟨_, rfl⟩
  have hfl := forget_len L who
  rw [← ofM_len hLe who, hn] at hfl
  have q1 := hG.root.cell 1
  have q2 := hG.root.cell 2
  have y1 := hG.root.free 1
  have k1 := KeptN.cell q1
  have k2 := KeptN.cell q2
  have kl : ∀ w', KeptN w w' → (Instr.lookup 107 (.map (some mb)) (.int .i64 who) false).run Try.prog w' = .ok (.slice va n vc) w' := fun w' hf => by
    rw [look_run (hG.fr0 hf) hw, hv, hn]
  have HGG := Lib.hid hG
  have HLE := Lib.hid hLe
  have HKY := Lib.hid (keyW hw)
  clear hG hLe hv hn
  go_enter Try.func37, Try.ntmps37
  go_wp2_with fail
  refine wp_region_sink 14 (KeptN w) (by kernel_rfl) ?_
  have hSa : KeptN w w.drew := KeptN.start _
  refine wpAnyS_take (i := 0) (v := ?_) rfl (by kernel_rfl) (fun _ _ _ h => h) (by rfl) hSa ?_ ?_
  rotate_left
  · intro w' hS'
    (try dsimp only at hS')
    go_simp <;> with_reducible rfl
  try simp only [Act.put, List.setIfInBounds_toArray, List.set_cons_zero, List.set_cons_succ]
  refine wpAnyS_take (i := 1) (v := ?_) rfl (by kernel_rfl) (fun _ _ _ h => h) (by rfl) hSa ?_ ?_
  rotate_left
  · intro w' hS'
    (try dsimp only at hS')
    go_simp <;> with_reducible rfl
  try simp only [Act.put, List.setIfInBounds_toArray, List.set_cons_zero, List.set_cons_succ]
  refine wpAnyS_take (i := 2) (v := ?_) rfl (by kernel_rfl) (fun _ _ _ h => h) (by rfl) hSa ?_ ?_
  rotate_left
  · intro w' hS'
    (try dsimp only at hS')
    go_simp <;> with_reducible rfl
  try simp only [Act.put, List.setIfInBounds_toArray, List.set_cons_zero, List.set_cons_succ]
  refine wpAnyS_take (i := 3) (v := ?_) rfl (by kernel_rfl) (fun _ _ _ h => h) (by rfl) hSa ?_ ?_
  rotate_left
  · intro w' hS'
    have ck1 := k1 _ hS'
    go_simp <;> with_reducible rfl
  try simp only [Act.put, List.setIfInBounds_toArray, List.set_cons_zero, List.set_cons_succ]
  refine wpAnyS_take (i := 4) (v := ?_) rfl (by kernel_rfl) (fun _ _ _ h => h) (by rfl) hSa ?_ ?_
  rotate_left
  · intro w' hS'
    (try dsimp only at hS')
    go_simp <;> with_reducible rfl
  try simp only [Act.put, List.setIfInBounds_toArray, List.set_cons_zero, List.set_cons_succ]
  refine wpAnyS_take (i := 5) (v := ?_) rfl (by kernel_rfl) (fun _ _ _ h => h) (by rfl) hSa ?_ ?_
  rotate_left
  · intro w' hS'
    (try dsimp only at hS')
    go_simp <;> with_reducible rfl
  try simp only [Act.put, List.setIfInBounds_toArray, List.set_cons_zero, List.set_cons_succ]
  refine wpAnyS_take (i := 6) (v := ?_) rfl (by kernel_rfl) (fun _ _ _ h => h) (by rfl) hSa ?_ ?_
  rotate_left
  · intro w' hS'
    (try dsimp only at hS')
    go_simp <;> with_reducible rfl
  try simp only [Act.put, List.setIfInBounds_toArray, List.set_cons_zero, List.set_cons_succ]
  refine wpAnyS_take (i := 7) (v := ?_) rfl (by kernel_rfl) (fun _ _ _ h => h) (by rfl) hSa ?_ ?_
  rotate_left
  · intro w' hS'
    have ck2 := k2 _ hS'
    go_simp <;> with_reducible rfl
  try simp only [Act.put, List.setIfInBounds_toArray, List.set_cons_zero, List.set_cons_succ]
  refine wpAnyS_take (i := 8) (v := ?_) rfl (by kernel_rfl) (fun _ _ _ h => h) (by rfl) hSa ?_ ?_
  rotate_left
  · intro w' hS'
    (try dsimp only at hS')
    go_simp <;> with_reducible rfl
  try simp only [Act.put, List.setIfInBounds_toArray, List.set_cons_zero, List.set_cons_succ]
  refine wpAnyS_take (i := 9) (v := ?_) rfl (by kernel_rfl) (fun _ _ _ h => h) (by rfl) hSa ?_ ?_
  rotate_left
  · intro w' hS'
    have ckl := kl _ hS'
    go_simp <;> with_reducible rfl
  try simp only [Act.put, List.setIfInBounds_toArray, List.set_cons_zero, List.set_cons_succ]
  have hws : IntKind.i64.wrap ((L.length : Int) - (n : Int)) = (L.length : Int) - n := by rw [IntKind.wrap_i64]; omega
  refine wpAnyS_take (i := 10) (v := ?_) rfl (by kernel_rfl) (fun _ _ _ h => h) (by rfl) hSa ?_ ?_
  rotate_left
  · intro w' hS'
    (try dsimp only at hS')
    go_simp <;> with_reducible rfl
  try simp only [Act.put, List.setIfInBounds_toArray, List.set_cons_zero, List.set_cons_succ]
  refine wpAnyS_take (i := 11) (v := ?_) rfl (by kernel_rfl) (fun _ _ _ h => h) (by rfl) hSa ?_ ?_
  rotate_left
  · intro w' hS'
    (try dsimp only at hS')
    go_simp <;> with_reducible rfl
  try simp only [Act.put, List.setIfInBounds_toArray, List.set_cons_zero, List.set_cons_succ]
  refine wpAnyS_take (i := 12) (v := ?_) rfl (by kernel_rfl) (fun _ _ _ h => h) (by rfl) hSa ?_ ?_
  rotate_left
  · intro w' hS'
    (try dsimp only at hS')
    go_simp <;> with_reducible rfl
  try simp only [Act.put, List.setIfInBounds_toArray, List.set_cons_zero, List.set_cons_succ]
  refine wpAnyS_take (i := 13) (v := ?_) rfl (by kernel_rfl) (fun _ _ _ h => h) (by rfl) hSa ?_ ?_
  rotate_left
  · intro w' hS'
    (try dsimp only at hS')
    go_simp <;> with_reducible rfl
  try simp only [Act.put, List.setIfInBounds_toArray, List.set_cons_zero, List.set_cons_succ]
  clear hws
  refine wpAnyS_last (i := 14) rfl (by kernel_rfl) (by decide) (by kernel_rfl) (by rfl) fun K hK => ?_
  go_simp
  refine hK.out _ _ ?_
  clear hK K hSa k1 k2 kl q1 y1
  have hb4 : Bk (w.drew.setCell ⟨lb, 1, none⟩ (.int .i64 ((L.length : Int) - n))) lb 109 [.int .i64 most, .int .i64 ((L.length : Int) - n), .map (some mb)] := Bk.set HGG.out.root 1 _
  have hf4 : Fr w (w.drew.setCell ⟨lb, 1, none⟩ (.int .i64 ((L.length : Int) - n))) (fun j => j = lb ∨ j = mb) := ((Fr.refl w _).drew).setCell (p := ⟨lb, 1, none⟩) (fun _ => .inl rfl) _
  have hne := bk_ne_map HGG.out.root HGG.out.map
  have HM4 : Hid (MapAt Try.prog 2 ikey GSl.v (w.drew.setCell ⟨lb, 1, none⟩ (.int .i64 ((L.length : Int) - n))) mb M0) := (HGG.out.map.fr0 ((Fr.refl w Nil).drew)).fr (Fr.store w.drew lb 1 _) (fun e => hne e.symm)
  have q2 := hb4.cell 2
  have HB4 := Lib.hid hb4
  have HF4 := Lib.hid hf4
  clear hb4 hf4
  go_wp2_with (at_delete; refine wpList_map_del _ rfl _ _ 107 2 rfl 134 Try.keyI64 Try.underlying107 intKey mb _ rfl HM4.out _ who rfl HKY.out ?_; intro w5 hm5 hf5)
  have HB5 := Lib.hid (HB4.out.fr hf5 hne)
  have HF5 : Hid (Fr w w5 (fun j => j = lb ∨ j = mb)) := HF4.out.transS (hf5.mono fun _ _ h => .inr h)
  have HM5 := Lib.hid hm5
  clear hm5 hf5
  go_wp2_with fail
  go_end0
  refine ⟨rfl, ⟨mb, delM M0 who, ?_, fun x => ?_⟩, HF5.out.mono fun k _ hk => by (rcases hk with rfl | rfl; exact HGG.out.inL; exact HGG.out.inM)⟩
  · have e : ((forgetL L who).length : Int) = (L.length : Int) - n := by omega
    rw [e]
    exact HGG.out.drop who HB5.out HM5.out (HF5.out.mono fun k _ hk => hk.elim .inl fun h => .inr (.inl h))
  · rw [ofM_del, forget_of]
    by_cases e : x = who
    · rw [if_pos e, if_pos e]; rfl
    · rw [if_neg e, if_neg e]; exact HLE.out x

theorem slRow : SlT Try.prog 78 102 2 32 := SlT.mk (z := .agg #[.int .i64 0, .slice none 0 0]) Try.underlying78 (by kernel_rfl) (by rfl) (by decide) (by decide)
def touchR (e : Ent) : Int × List Int := (e.2.1, [e.1])
theorem own_lit1 (w : World) (b : Nat) (x : Int) (hb : w.heap.size = b) : OwnInts (w.alloc (.cells #[.int .i64 x] 2)) 2 (.slice (some ⟨b, 0, none⟩) 1 1) [x] := by
  subst hb
  have := World.ownsRow_lit (base := 0) (e := 2) (size := 1) w #[Value.int .i64 x] 1 (Nat.zero_le _) (by decide) rfl
  simpa [OwnInts] using this
theorem sl_row1 (w : World) (e : TypeId) (b : Nat) (k : Int) (v : Value) (hb : w.heap.size = b) : SlAt (w.alloc (.cells #[.int .i64 k, v] e)) 2 (.slice (some ⟨b, 0, none⟩) 1 1) 1 [.int .i64 k, v] := by
  subst hb
  refine ⟨rfl, .inr ⟨_, 1, rfl, fun j u hu => ?_⟩⟩
  rw [Addr.add_lit, Nat.zero_add, (Bk.new w e #[.int .i64 k, v]).cell j]
  simpa using hu
theorem own_some {w : World} {base : Nat} {e : TypeId} {size n c : Nat} {a : Option Addr} {xs : List Value} (h : w.ownsRow base e size (.slice a n c) n xs) (hn : 0 < n) : ∃ b, a = some ⟨b, 0, none⟩ := by
  rcases h.2 with ⟨_, h2⟩ | ⟨g, cap, cur, h1, _⟩
  · omega
  · cases h1; exact ⟨g, rfl⟩

set_option maxRecDepth 100000 in
set_option maxHeartbeats 2000000 in
theorem utouched_any {lb : Nat} {most : Int} {L : List (Int × Ent)} {S : Nat → Prop} (who : Int) (w : World) (h : LogAt w lb most L S) (hw : (Lit.int .i64 who).wf = true) (hl : L.length ≤ 100000) :
    Calls Try.prog 38 #[lptr lb, .int .i64 who] w (AllRet ((ofL L who).map touchR) w) := by
  obtain ⟨mb, M0, hG, hLe⟩ := h
  have hrow := (hG.at who).1.row
  obtain ⟨va, vc, hv⟩ := (SlAt.of_own hrow).1.shape
  have qL := look_run hG hw
  rw [hv] at qL hrow
  have q2 := hG.root.cell 2
  have hlen : (ofM M0 who).es.length ≤ 100000 := by rw [ofM_len hLe who]; have := ofL_len L who; omega
  have HO : Hid (ofL L who = (ofM M0 who).es.map GEnt.mod) := (hLe who).symm
  generalize (ofM M0 who).es = es at *
  have HS := Lib.hid (SlAt.of_own hrow).1
  clear hG hLe hv hrow
  go_enter Try.func38, Try.ntmps38
  go_wp2_with fail
  go_loopw [5, 7, 17] (fun vo _ vi wr => ∃ (i : Nat) (a : Option Addr) (cap : Nat) (g : List GRow), i ≤ es.length ∧ vi = .int .i64 i ∧ vo = .slice a i cap ∧ g.length = i ∧ NewRL w.heap.size wr (.slice a i cap) g ∧ rowsOf g = ((es.take i).map GEnt.mod).map touchR ∧ Fr w wr Nil) (fun _ _ vi _ => es.length - (intOf vi).toNat)
  case atStart => exact ⟨0, none, 0, [], by omega, rfl, rfl, rfl, ⟨⟨World.ownsRow_nil _ _ _ _, by simp⟩, by simp [rlBlocks, Value.ownBlock], by simp [rlBlocks, Value.ownBlock]⟩, rfl, Fr.refl _ _⟩
  case round =>
    obtain ⟨i, a, cap, g, hi, rfl, rfl, hgl, hn, hro, hf⟩ := hrel
    have HN := Lib.hid hn
    have HRO := Lib.hid hro
    have Hf := Lib.hid hf
    have HGL := Lib.hid hgl
    obtain ⟨wo, rfl⟩ : ∃ wo : World, wo = wr := ⟨_, rfl⟩
    clear hn hro hf qL q2 hgl
    by_cases hlt : i < es.length
    · obtain ⟨tb, toff, tcap2, hv, hc⟩ := flat_form (n := 3) (f := GEnt.vals) (fun _ => rfl) (by decide) (SlAt.fr0 HS.out Hf.out) (by omega)
      simp only [Value.slice.injEq, true_and] at hv
      obtain ⟨rfl, rfl⟩ := hv
      have hit := List.getElem?_eq_getElem hlt
      have HTK : Hid (((es.take (i + 1)).map GEnt.mod).map touchR = ((es.take i).map GEnt.mod).map touchR ++ [(es[i].key, [es[i].table])]) := by
        have : ((es.take (i + 1)).map GEnt.mod).map touchR = ((es.take i).map GEnt.mod).map touchR ++ [(es[i].key, [es[i].table])] := by
          rw [List.take_succ_eq_append_getElem hlt, List.map_append, List.map_append]; rfl
        exact this
      generalize es[i] = e at hit HTK
      have c0 := hc i _ hit 0 _ rfl
      have c1 := hc i _ hit 1 _ rfl
      have c2 := hc i _ hit 2 _ rfl
      simp only [Nat.add_zero] at c0
      obtain ⟨ef, ec, hev⟩ := e.shape
      rw [hev] at c2
      have hil : (i : Int) < (es.length : Int) := by omega
      obtain ⟨et, het⟩ : ∃ x, e.table = x := ⟨_, rfl⟩
      obtain ⟨ek, hek⟩ : ∃ x, e.key = x := ⟨_, rfl⟩
      rw [het] at c0 HTK
      rw [hek] at c1 HTK
      clear hc hit hev het hek
      have hown := HN.out.rl.own
      rw [HGL.out] at hown
      have HOWN := Lib.hid hown
      have HOI := Lib.hid (own_lit1 (wo.alloc (.cells #[.int .i64 et, .int .i64 ek, .func ef #[] ec] 138)) (wo.heap.size + 1) et (by simp))
      have Hlen : Hid (i + 1 ≤ 1000000) := by
        have : i + 1 ≤ 1000000 := by omega
        exact this
      clear hown
      go_wp2_with (at_builtin; refine wpList_app _ rfl _ _ 78 rfl slRow _ rfl (World.ownsRow.alloc (World.ownsRow.alloc (World.ownsRow.alloc HOWN.out _) _) _) _ rfl (sl_row1 _ _ _ ek _ (by simp)) (by simp [Value.oneCell']) Hlen.out ?_)
      intro a6 c6 w6 ho hg hat
      obtain ⟨b6, rfl⟩ := own_some ho (by omega)
      have hcl : Cloned [et] wo (.slice (some ⟨wo.heap.size + 1, 0, none⟩) 1 1) ((wo.alloc (.cells #[.int .i64 et, .int .i64 ek, .func ef #[] ec] 138)).alloc (.cells #[.int .i64 et] 2)) := ⟨HOI.out, fun k hk => by simp [Value.ownBlock] at hk; omega, ((Fr.refl wo Nil).alloc _).alloc _⟩
      have hsn := HN.out.snoc (b := b6) (cap := c6) (k := ek) (w3 := w6) hcl Hf.out.size ((Fr.refl _ Nil).alloc (.cells #[.int .i64 ek, .slice (some ⟨wo.heap.size + 1, 0, none⟩) 1 1] 102)) (by rw [HGL.out]; exact ho) hg (by
        rcases hat with hat | hat
        · exact .inl hat.symm
        · right; simp only [Value.ownBlock, Option.some.injEq] at hat; rw [hat]; simp)
      rw [HGL.out] at hsn
      have HSN := Lib.hid hsn
      have HF6 : Hid (Fr w w6 Nil) := (((Hf.out.alloc _).alloc _).alloc _).grown hg fun j hj hlt => absurd hlt (by
        have := HN.out.new j (by simp [rlBlocks, hj])
        omega)
      have HRO2 : Hid (rowsOf (g ++ [⟨ek, .slice (some ⟨wo.heap.size + 1, 0, none⟩) 1 1, [et]⟩]) = ((es.take (i + 1)).map GEnt.mod).map touchR) := by
        have : rowsOf (g ++ [⟨ek, .slice (some ⟨wo.heap.size + 1, 0, none⟩) 1 1, [et]⟩]) = ((es.take (i + 1)).map GEnt.mod).map touchR := by
          rw [HTK.out, ← HRO.out]; simp [rowsOf]
        exact this
      have HGL2 : Hid ((g ++ [(⟨ek, .slice (some ⟨wo.heap.size + 1, 0, none⟩) 1 1, [et]⟩ : GRow)]).length = i + 1) := by
        have : (g ++ [(⟨ek, .slice (some ⟨wo.heap.size + 1, 0, none⟩) 1 1, [et]⟩ : GRow)]).length = i + 1 := by simp [HGL.out]
        exact this
      clear ho hg hat hcl hsn c0 c1 c2
      go_wp2_with fail
      go_roundw
      case rel => exact ⟨i + 1, some ⟨b6, 0, none⟩, c6, _, by omega, by go_num, rfl, HGL2.out, HSN.out, HRO2.out, HF6.out⟩
      case measure => simp [intOf]; omega
    · obtain rfl : i = es.length := by omega
      have HRO2 : Hid (rowsOf g = (ofL L who).map touchR) := by
        have := HRO.out
        rw [List.take_length, ← HO.out] at this
        exact this
      rw [← HGL.out] at HN ⊢
      go_wp2_with fail
      go_ret
      exact ⟨a, cap, g, rfl, HN.out, HRO2.out, Hf.out⟩
end Go.Proofs.Ytjpenaodkfljhaa
