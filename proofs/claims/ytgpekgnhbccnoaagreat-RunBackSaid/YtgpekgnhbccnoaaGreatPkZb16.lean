/-
  The log of undoing: walks of New, Len, Used, backs and of what it hands back.
  The log of undoing: walk of Note.
  Instructions, and what they do, in plain lists.
  No condition.
  Right instructions, in plain lists.
  No condition.
  The log of undoing in plain lists: the last entry of a number; what is left behind it.
  The log of undoing: walk of Back.
-/
import Derived.Test.YtgpekgnhbccnoaaGreatPkZb14
import Derived.Test.YtgpekgnhbccnoaaGreatPkZb15
import Derived.Test.YtgpekgnhbccnoaaGreatPkZb1
import Derived.Deep.QuietTactic
import Derived.BigQuiet
namespace Go.Proofs.YtgpekgnhbccnoaaGreat
open Go Go.RowKit Go.Maps

theorem keyW {who : Int} (h : (Lit.int .i64 who).wf = true) : keyOf Tryz.prog 2 (.int .i64 who) = some (ikey who) := keyOf_int_mk Tryz.underlying2 h
theorem zeroEs (w : World) : (zeroValue 138).run Tryz.prog w = .ok (GSl.none.v) w := Tryz.zeroValue138 w
set_option maxRecDepth 100000 in
/-- The look-up's run. -/
theorem look_map {w : World} {mb : Nat} {M : List (Int × GSl)} (h : MapAt Tryz.prog 2 ikey GSl.v w mb M) {who : Int} (hw : (Lit.int .i64 who).wf = true) :
    (Instr.lookup 101 (.map (some mb)) (.int .i64 who) false).run Tryz.prog w = .ok (ofM M who).v w := by
  obtain ⟨D, h1, h2⟩ := h
  obtain ⟨v, ps, hrun, hv⟩ := h1.lookup Tryz.keyI64 Tryz.underlying101 (zeroEs w) (zd := .held GSl.none.v) (zp := []) rfl (keyW hw)
  have hv2 := heldR_inv hv
  rw [h2.at_getV (z := GSl.none) intKey] at hv2
  injection hv2 with hv2
  rw [hrun, ← hv2]
  rfl
theorem look_run {w : World} {lb mb : Nat} {most used : Int} {M : List (Int × GSl)} {S : Nat → Prop} (h : LogG w lb mb most used M S) {who : Int} (hw : (Lit.int .i64 who).wf = true) :
    (Instr.lookup 101 (.map (some mb)) (.int .i64 who) false).run Tryz.prog w = .ok (ofM M who).v w := look_map h.map hw
/-- The blocks of who's row. -/
def RowOf (M : List (Int × GSl)) (who : Int) (k : Nat) : Prop := (ofM M who).v.ownBlock = some k
theorem LogG.rowL {w : World} {lb mb : Nat} {most used : Int} {M : List (Int × GSl)} {S : Nat → Prop} (h : LogG w lb mb most used M S) (who : Int) : ¬ RowOf M who lb := fun hk => by
  obtain ⟨c0, hc0⟩ := row_ty (h.at who).1.row hk
  have := h.root
  unfold Bk at this
  rw [this] at hc0; simp at hc0
theorem LogG.rowM {w : World} {lb mb : Nat} {most used : Int} {M : List (Int × GSl)} {S : Nat → Prop} (h : LogG w lb mb most used M S) (who : Int) : ¬ RowOf M who mb := fun hk => by
  obtain ⟨c0, hc0⟩ := row_ty (h.at who).1.row hk
  obtain ⟨D, ⟨es, ck, hm, _⟩, _⟩ := h.map
  rw [hm] at hc0; cases hc0
theorem ofM_len {M : List (Int × GSl)} {L : List (Int × Ent)} (h : ∀ who, (ofM M who).es.map GEnt.mod = ofL L who) (who : Int) : (ofM M who).es.length = (ofL L who).length := by rw [← h, List.length_map]
theorem ofL_len (L : List (Int × Ent)) (who : Int) : (ofL L who).length ≤ L.length := by
  unfold ofL
  rw [List.length_map]
  exact List.length_filter_le _ _

def UNewRet (most : Int) (w : World) (e : Ending) (w' : World) : Prop := ∃ lb S, e = .returned (lptr lb) ∧ LogAt w' lb (max 0 most) [] S ∧ (∀ k, S k → w.heap.size ≤ k) ∧ Fr w w' Nil
theorem new_log (w : World) (m : Int) : LogAt ((w.alloc (.map #[] 0)).alloc (.cells #[.int .i64 m, .int .i64 0, .map (some w.heap.size)] 103)) (w.heap.size + 1) m [] (fun k => k = w.heap.size ∨ k = w.heap.size + 1) := by
  refine ⟨w.heap.size, [], ⟨?_, (MapAt.made w Tryz.prog 2 ikey GSl.v).fr0 ((Fr.refl _ Nil).alloc _), (fun p hp => by cases hp), (fun p hp => by cases hp), (fun p hp => by cases hp), (fun p hp => by cases hp), .inr rfl, .inl rfl, (fun p hp => by cases hp), (fun p hp => by cases hp), fun k hk => ?_⟩, fun who => rfl⟩
  · have := Bk.new (w.alloc (.map #[] 0)) 103 #[.int .i64 m, .int .i64 0, .map (some w.heap.size)]
    simpa using this
  · simp only [World.size_alloc]
    omega
set_option maxRecDepth 100000 in
set_option maxHeartbeats 1000000 in
theorem unew_any (most : Int) (w : World) :
    Calls Tryz.prog 12 #[.int .i64 most] w (UNewRet most w) := by
  have hmm := @run_makeMap Tryz.prog
  go_enter Tryz.func12, Tryz.ntmps12
  go_wp2_with fail
  · go_ret
    exact ⟨_, _, rfl, by rw [show max 0 most = most by omega]; exact new_log w most, fun k hk => by (rcases hk with h | h <;> omega), ((Fr.refl w Nil).alloc _).alloc _⟩
  · go_ret
    exact ⟨_, _, rfl, by rw [show max 0 most = 0 by omega]; exact new_log w 0, fun k hk => by (rcases hk with h | h <;> omega), ((Fr.refl w Nil).alloc _).alloc _⟩

set_option maxRecDepth 100000 in
set_option maxHeartbeats 1000000 in
theorem ulen_any {lb : Nat} {most : Int} {L : List (Int × Ent)} {S : Nat → Prop} (who : Int) (w : World) (h : LogAt w lb most L S) (hw : (Lit.int .i64 who).wf = true) :
    Calls Tryz.prog 28 #[lptr lb, .int .i64 who] w fun e w' => e = .returned (.int .i64 (ofL L who).length) ∧ w = w' := by
  obtain ⟨mb, M, hg, hL⟩ := h
  have hr := look_run hg hw
  have q2 := hg.root.cell 2
  have hrow := (hg.at who).1.row
  rw [← ofM_len hL who]
  obtain ⟨a, cap, hv⟩ := (SlAt.of_own hrow).1.shape
  rw [hv] at hr
  generalize (ofM M who).es.length = n at *
  clear hg hL hw hrow hv
  go_enter Tryz.func28, Tryz.ntmps28
  go_wp2_with fail
  go_ret
  exact ⟨rfl, rfl⟩
set_option maxRecDepth 100000 in
set_option maxHeartbeats 1000000 in
theorem uused_any {lb : Nat} {most : Int} {L : List (Int × Ent)} {S : Nat → Prop} (w : World) (h : LogAt w lb most L S) :
    Calls Tryz.prog 24 #[lptr lb] w fun e w' => e = .returned (.int .i64 L.length) ∧ w = w' := by
  obtain ⟨mb, M, hg, hL⟩ := h
  have q1 := hg.root.cell 1
  clear hg hL
  go_enter Tryz.func24, Tryz.ntmps24
  go_wp2_with fail
  go_ret
  exact ⟨rfl, rfl⟩

/-- What there is of a key. -/
def entOf (M : List MTab) (t k : Int) : Ent := (t, k, mget (mtab M t) k)
/-- .. brought back. -/
def undoE (M : List MTab) (e : Ent) : List MTab := match e.2.2 with
  | none => (mdel M e.1 e.2.1).1
  | some xs => (mput M e.1 e.2.1 xs).1
def BackRet (M : List MTab) (t k : Int) (w : World) (e : Ending) (w' : World) : Prop :=
  ∃ g : GEnt, e = .returned g.fv ∧ g.mod = entOf M t k ∧ EntOk w' g ∧ (∀ j, g.has j → w.heap.size ≤ j) ∧ Fr w w' Nil
theorem mget_len {M : List MTab} (hg : Good M) {t k : Int} {xs : List Int} (h : mget (mtab M t) k = some xs) : xs.length ≤ 1000000 := by
  have hw := (hg.at t).width
  have hl := (hg.at t).le
  unfold mget at h
  rw [Option.map_eq_some_iff] at h
  obtain ⟨r, hr, rfl⟩ := h
  have := hw r (List.mem_of_find?_eq_some hr)
  omega
set_option maxRecDepth 100000 in
set_option maxHeartbeats 1000000 in
theorem backs_any {rb : Nat} {M : List MTab} {S : Nat → Prop} (t k : Int) (w : World) (h : Rws w rb M S) (hg : Good M) :
    Calls Tryz.prog 93 #[rptr rb, .int .i64 t, .int .i64 k] w (BackRet M t k w) := by
  have H := Lib.hid h
  have HG := Lib.hid hg
  have hf0 : Fr w ((w.alloc (.cells #[.int .i64 t] 3)).alloc (.cells #[.int .i64 k] 2)) Nil := ((Fr.refl w Nil).alloc _).alloc _
  have hb1 := (Bk.new w 3 #[.int .i64 t]).alloc (.cells #[.int .i64 k] 2)
  have hb2 := Bk.new (w.alloc (.cells #[.int .i64 t] 3)) 2 #[.int .i64 k]
  simp only [World.size_alloc] at hb2
  have HF0 := Lib.hid hf0
  have HB1 := Lib.hid hb1
  have HB2 := Lib.hid hb2
  clear h hg hf0 hb1 hb2
  go_enter Tryz.func93, Tryz.ntmps93
  go_wp2_with fail
  refine (api_get t k (H.out.fr0 HF0.out) HG.out).mono ?_
  rintro e w1 (⟨xs, hm, a, cap, rfl, hc⟩ | ⟨hm, rfl, hf⟩)
  · have HM := Lib.hid hm
    have HC := Lib.hid hc
    clear hm hc
    go_wp2_with fail
    go_ret
    have hfa : Fr w1 (w1.alloc (.cells #[.slice a xs.length cap] 24)) Nil := (Fr.refl w1 Nil).alloc _
    refine ⟨⟨t, k, some xs, w.heap.size, w.heap.size + 1, w1.heap.size, .slice a xs.length cap⟩, rfl, ?_, ⟨(HB1.out.fr HC.out.2.2 fun h => h).alloc _, (HB2.out.fr HC.out.2.2 fun h => h).alloc _, fun ys hy => ?_⟩, fun j hj => ?_, (HF0.out.trans0 HC.out.2.2).alloc _⟩
    · show (t, k, some xs) = entOf M t k
      unfold entOf; rw [HM.out]
    · cases hy
      exact ⟨Bk.new w1 _ _, HC.out.1.fr hfa fun _ _ h => h, mget_len HG.out HM.out⟩
    · have hs := HC.out.2.2.size
      simp only [World.size_alloc] at hs
      rcases hj with h | h | ⟨_, h | h⟩
      · show w.heap.size ≤ j; have h : j = w.heap.size := h; omega
      · have h : j = w.heap.size + 1 := h; omega
      · have h : j = w1.heap.size := h; omega
      · have := HC.out.2.1 j h
        simp only [World.size_alloc] at this
        omega
  · have HM := Lib.hid hm
    have HF := Lib.hid hf
    clear hm hf
    go_wp2_with fail
    go_ret
    refine ⟨⟨t, k, none, w.heap.size, w.heap.size + 1, 0, .slice none 0 0⟩, rfl, ?_, ⟨(HB1.out.fr HF.out fun h => h).alloc _, (HB2.out.fr HF.out fun h => h).alloc _, fun ys hy => by cases hy⟩, fun j hj => ?_, (HF0.out.trans0 HF.out).alloc _⟩
    · show (t, k, none) = entOf M t k
      unfold entOf; rw [HM.out]
    · rcases hj with h | h | ⟨h, _⟩
      · have h : j = w.heap.size := h; omega
      · have h : j = w.heap.size + 1 := h; omega
      · exact absurd rfl h

set_option maxRecDepth 100000 in
set_option maxHeartbeats 1000000 in
theorem back1_any {rb : Nat} {M : List MTab} {S : Nat → Prop} (g : GEnt) (w : World) (h : Rws w rb M S) (hg : Good M) (he : EntOk w g) (hn : g.was = none) :
    Calls Tryz.prog 119 #[rptr rb, .pointer (some ⟨g.tb, 0, none⟩), .pointer (some ⟨g.kb, 0, none⟩)] w fun e w' => e = .returned (.tuple #[]) ∧ UpdS w rb S (undoE M g.mod) w' := by
  have q0 := he.tbox.cell 0
  have q1 := he.kbox.cell 0
  have HE : Hid (undoE M g.mod = (mdel M g.table g.key).1) := by
    have : undoE M g.mod = (mdel M g.table g.key).1 := by unfold undoE GEnt.mod; rw [hn]
    exact this
  have H := Lib.hid h
  have HG := Lib.hid hg
  clear h hg he hn
  go_enter Tryz.func119, Tryz.ntmps119
  go_wp2_with fail
  refine (api_del g.table g.key H.out HG.out).mono ?_
  rintro e w1 ⟨rfl, hu⟩
  have HU := Lib.hid hu
  clear hu
  go_wp2_with fail
  go_end0
  exact ⟨rfl, by rw [HE.out]; exact HU.out⟩
set_option maxRecDepth 100000 in
set_option maxHeartbeats 1000000 in
theorem back2_any {rb : Nat} {M : List MTab} {S : Nat → Prop} (g : GEnt) (xs : List Int) (w : World) (h : Rws w rb M S) (hg : Good M) (he : EntOk w g) (hn : g.was = some xs) :
    Calls Tryz.prog 120 #[rptr rb, .pointer (some ⟨g.tb, 0, none⟩), .pointer (some ⟨g.kb, 0, none⟩), .pointer (some ⟨g.cb, 0, none⟩)] w fun e w' => e = .returned (.tuple #[]) ∧ UpdS w rb S (undoE M g.mod) w' := by
  obtain ⟨h1, h2, h3⟩ := he.cbox xs hn
  have q0 := he.tbox.cell 0
  have q1 := he.kbox.cell 0
  have q2 := h1.cell 0
  obtain ⟨ca, cc, hcv⟩ := h2.shape
  rw [hcv] at q2
  have HX : Hid (IntsAt w (.slice ca xs.length cc) xs) := by
    have := h2.at
    rw [hcv] at this
    exact this
  have HE : Hid (undoE M g.mod = (mput M g.table g.key xs).1) := by
    have : undoE M g.mod = (mput M g.table g.key xs).1 := by unfold undoE GEnt.mod; rw [hn]
    exact this
  have H := Lib.hid h
  have HG := Lib.hid hg
  clear h hg he hn h1 h2 hcv
  go_enter Tryz.func120, Tryz.ntmps120
  go_wp2_with fail
  refine (api_put g.table g.key _ xs H.out HG.out HX.out h3).mono ?_
  rintro e w1 ⟨rfl, hu⟩
  have HU := Lib.hid hu
  clear hu
  go_wp2_with fail
  go_end0
  exact ⟨rfl, by rw [HE.out]; exact HU.out⟩
end Go.Proofs.YtgpekgnhbccnoaaGreat
namespace Go.Proofs.YtgpekgnhbccnoaaGreat
open Go Go.RowKit Go.Maps

def noteE (M : List MTab) (most : Int) (L : List (Int × Ent)) (t : Int) : Int := if (mtab M t).1 = 0 then 2 else if most ≤ (L.length : Int) then 3 else 0
def noteL (M : List MTab) (most : Int) (L : List (Int × Ent)) (who t k : Int) : List (Int × Ent) := if noteE M most L t = 0 then L ++ [(who, entOf M t k)] else L
theorem ofL_snoc (L : List (Int × Ent)) (who x : Int) (e : Ent) : ofL (L ++ [(who, e)]) x = if x = who then ofL L x ++ [e] else ofL L x := by
  unfold ofL
  rw [List.filter_append, List.map_append]
  by_cases h : x = who
  · subst h
    rw [if_pos rfl, List.filter_cons_of_pos (by simp)]
    simp
  · rw [if_neg h, List.filter_cons_of_neg (by simpa using fun e => h e.symm)]
    simp
theorem nodup_len : ∀ {l m : List Int}, l.Nodup → (∀ x ∈ l, x ∈ m) → l.length ≤ m.length
  | [], m, _, _ => by simp
  | x :: l, m, h, hs => by
    obtain ⟨h1, h2⟩ := List.nodup_cons.1 h
    have hx := hs x (by simp)
    have := nodup_len (l := l) (m := m.erase x) h2 fun y hy => (List.mem_erase_of_ne (by intro e; subst e; exact h1 hy)).2 (hs y (by simp [hy]))
    rw [List.length_erase_of_mem hx] at this
    have := List.length_pos_of_mem hx
    simp only [List.length_cons]; omega
theorem LogG.few {w : World} {lb mb : Nat} {most used : Int} {L : List (Int × Ent)} {M : List (Int × GSl)} {S : Nat → Prop} (h : LogG w lb mb most used M S) (hL : ∀ x, (ofM M x).es.map GEnt.mod = ofL L x) : M.length ≤ L.length := by
  have := nodup_len (l := M.map Prod.fst) (m := L.map Prod.fst) h.map.nodup fun x hx => by
    have h1 := (h.at x).2
    rw [List.contains_iff_mem.2 hx] at h1
    have h2 := hL x
    cases hc : (ofM M x).es with
    | nil => rw [hc] at h1; cases h1
    | cons e es =>
      rw [hc] at h2
      have h3 : e.mod ∈ ofL L x := by rw [← h2]; simp
      unfold ofL at h3
      obtain ⟨p, hp, _⟩ := List.mem_map.1 h3
      obtain ⟨hp1, hp2⟩ := List.mem_filter.1 hp
      rw [beq_iff_eq] at hp2
      exact List.mem_map.2 ⟨p, hp1, hp2⟩
  simpa using this
theorem LogUpd.same {w w' : World} {lb : Nat} {most : Int} {L : List (Int × Ent)} {S : Nat → Prop} (h : LogAt w lb most L S) (hf : Fr w w' Nil) : LogUpd w lb most L S w' := by
  obtain ⟨mb, M, h1, h2⟩ := h
  exact ⟨⟨mb, M, (h1.fr0 hf).more (fun k hk => .inl hk) (fun k hk => hk.elim (fun h => Nat.lt_of_lt_of_le (h1.lt k h) hf.size) (·.2)), h2⟩, hf.of_nil⟩
theorem note_done {w w3 w5 w6 w7 : World} {lb mb : Nat} {most : Int} {L : List (Int × Ent)} {M : List (Int × GSl)} {S : Nat → Prop} {who : Int} {g : GEnt} {a6 : Option Addr} {c6 : Nat} (h : LogG w lb mb most (L.length : Nat) M S) (hL : ∀ x, (ofM M x).es.map GEnt.mod = ofL L x)
    (hf3 : Fr w w3 Nil) (hge : EntOk w3 g) (hgn : ∀ j, g.has j → w.heap.size ≤ j) (hf5 : Fr w3 w5 Nil)
    (ho : w6.ownsRow 0 152 3 (.slice a6 ((ofM M who).es.length + 1) c6) ((ofM M who).es.length + 1) ((ofM M who).es.flatMap GEnt.vals ++ g.vals)) (hg6 : w5.grownBy w6 (ofM M who).v.ownBlock)
    (hat : (Value.slice a6 ((ofM M who).es.length + 1) c6).ownBlock = (ofM M who).v.ownBlock ∨ (Value.slice a6 ((ofM M who).es.length + 1) c6).ownBlock = some w5.heap.size)
    (hm7 : MapAt Tryz.prog 2 ikey GSl.v w7 mb (delM M who ++ [(who, ⟨.slice a6 ((ofM M who).es.length + 1) c6, (ofM M who).es ++ [g]⟩)])) (hf7 : Fr w6 w7 (fun j => j = mb)) :
    LogUpd w lb most (L ++ [(who, g.mod)]) S (w7.setCell ⟨lb, 1, none⟩ (.int .i64 ((L.length : Int) + 1))) := by
  obtain ⟨hnb, hts, hto⟩ := h.turns (who := who)
  have hat0 := (h.at who).1
  have hw5 := hf3.trans0 hf5
  have s5 := hw5.size
  have hf56 : Fr w5 w6 (Turns lb mb M who) := (Fr.refl w5 _).grown hg6 fun k hk _ => .inr (.inr hk)
  have hf57 : Fr w5 w7 (Turns lb mb M who) := hf56.transS (hf7.mono fun k _ hk => .inr (.inl hk))
  have hf58 : Fr w5 (w7.setCell ⟨lb, 1, none⟩ (.int .i64 ((L.length : Int) + 1))) (Turns lb mb M who) := hf57.setCell (p := ⟨lb, 1, none⟩) (fun _ => .inl rfl) _
  have hfw : Fr w (w7.setCell ⟨lb, 1, none⟩ (.int .i64 ((L.length : Int) + 1))) (Turns lb mb M who) := (hw5.of_nil).transS hf58
  have hlt : ∀ k, Turns lb mb M who k → k < w.heap.size := fun k hk => h.lt k (hts k hk)
  have hmlt := h.map.lt
  -- the row's block is not the log's, nor the map's
  have hvne : ∀ k, (Value.slice a6 ((ofM M who).es.length + 1) c6).ownBlock = some k → k ≠ lb ∧ k ≠ mb := fun k hk => by
    obtain ⟨c1, hc1⟩ := row_ty ho hk
    rcases hat with hat | hat
    · have hk0 := hat.symm.trans hk
      obtain ⟨c0, hc0⟩ := row_ty hat0.row hk0
      refine ⟨fun e => ?_, fun e => ?_⟩
      · subst e
        have := h.root
        unfold Bk at this
        rw [this] at hc0; simp at hc0
      · subst e
        obtain ⟨D, ⟨es, ck, hm, _⟩, _⟩ := h.map
        rw [hm] at hc0; cases hc0
    · rw [hk] at hat; cases hat
      have := h.lt lb h.inL
      exact ⟨by omega, by omega⟩
  have hroot : Bk (w7.setCell ⟨lb, 1, none⟩ (.int .i64 ((L.length : Int) + 1))) lb 103 [.int .i64 most, .int .i64 ((L.length : Int) + 1), .map (some mb)] := by
    have h5 : Bk w5 lb _ _ := h.root.fr hw5 fun h => h
    have h6 : Bk w6 lb _ _ := h5.fr ((Fr.refl w5 (fun k => (ofM M who).v.ownBlock = some k)).grown hg6 fun k hk _ => hk) (fun hk => by
      obtain ⟨c0, hc0⟩ := row_ty hat0.row hk
      have := h.root
      unfold Bk at this
      rw [this] at hc0; simp at hc0)
    have h7 : Bk w7 lb _ _ := h6.fr hf7 (fun e => by
      subst e
      obtain ⟨D, ⟨es, ck, hm, _⟩, _⟩ := h.map
      have := h.root
      unfold Bk at this
      rw [this] at hm; cases hm)
    exact h7.set 1 _
  have hrow : (w7.setCell ⟨lb, 1, none⟩ (.int .i64 ((L.length : Int) + 1))).ownsRow 0 152 3 (.slice a6 ((ofM M who).es.length + 1) c6) ((ofM M who).es ++ [g]).length (((ofM M who).es ++ [g]).flatMap GEnt.vals) := by
    have h7 := hf7.own ho fun k hk e => (hvne k hk).2 e
    have h8 := (Fr.store w7 lb 1 (.int .i64 ((L.length : Int) + 1))).own h7 fun k hk e => (hvne k hk).1 e
    rw [List.length_append, List.flatMap_append]
    simpa using h8
  have hents : ∀ e ∈ (ofM M who).es ++ [g], EntOk (w7.setCell ⟨lb, 1, none⟩ (.int .i64 ((L.length : Int) + 1))) e := fun e he => by
    rcases List.mem_append.1 he with he | he
    · exact (hat0.ents e he).frT hfw hnb
    · simp at he; subst he
      refine (hge.fr hf5 fun _ _ h => h).fr hf58 fun k hk ht => ?_
      have := hgn k hk
      have := hlt k ht
      omega
  have hset := h.set (u := (L.length : Int) + 1) (S' := Gr S w (w7.setCell ⟨lb, 1, none⟩ (.int .i64 ((L.length : Int) + 1)))) (fun k hk => .inl hk) (fun k hk => hk.elim (fun h1 => Nat.lt_of_lt_of_le (h.lt k h1) hfw.size) (·.2)) who ⟨.slice a6 ((ofM M who).es.length + 1) c6, (ofM M who).es ++ [g]⟩ hroot (hm7.fr (Fr.store w7 lb 1 _) fun e => by
      subst e
      obtain ⟨D, ⟨es, ck, hm, _⟩, _⟩ := h.map
      have := h.root
      unfold Bk at this
      rw [this] at hm; cases hm) hfw hrow hents (hat.imp id fun hat k hk => by rw [hk] at hat; cases hat; omega) (by simp) (fun e he k hk => by
      rcases List.mem_append.1 he with he | he
      · exact .inl (hat0.inE e he k hk)
      · simp at he; subst he
        refine .inr ⟨hgn k hk, ?_⟩
        have := hge.lt k hk
        have := (hf5.of_nil (S := Turns lb mb M who)).transS hf58 |>.size
        omega) (fun k hk => by
      rcases hat with hat | hat
      · exact .inl (hat0.inV k (hat.symm.trans hk))
      · refine .inr ⟨by rw [hk] at hat; cases hat; omega, (World.ownsRow.lt hrow k hk).2⟩)
  refine ⟨⟨mb, delM M who ++ [(who, ⟨.slice a6 ((ofM M who).es.length + 1) c6, (ofM M who).es ++ [g]⟩)], ?_, fun x => ?_⟩, hfw.mono fun k _ hk => hts k hk⟩
  · have e : ((L ++ [(who, g.mod)]).length : Nat) = L.length + 1 := by simp
    rw [e]
    exact hset
  · rw [ofM_put, ofL_snoc]
    by_cases e : x = who
    · subst e
      rw [if_pos rfl, if_pos rfl, ← hL x]
      simp
    · rw [if_neg e, if_neg e]
      exact hL x
theorem MapAt.row {w w5 w6 : World} {lb mb : Nat} {most used : Int} {M : List (Int × GSl)} {S : Nat → Prop} {who : Int} (h : LogG w lb mb most used M S) (hf : Fr w w5 Nil) (hg6 : w5.grownBy w6 (ofM M who).v.ownBlock) : MapAt Tryz.prog 2 ikey GSl.v w6 mb M :=
  (h.map.fr0 hf).fr ((Fr.refl w5 (fun k => (ofM M who).v.ownBlock = some k)).grown hg6 fun k hk _ => hk) fun hk => by
    obtain ⟨c0, hc0⟩ := row_ty (h.at who).1.row hk
    obtain ⟨D, ⟨es, ck, hm, _⟩, _⟩ := h.map
    rw [hm] at hc0; cases hc0
theorem sl_gent (w : World) (e : TypeId) (g : GEnt) : SlAt (w.alloc (.cells g.vals.toArray e)) 3 (.slice (some ⟨w.heap.size, 0, none⟩) 1 1) 1 g.vals :=
  ⟨rfl, .inr ⟨_, 1, rfl, fun j u hu => by
    rw [Addr.add_lit, Nat.zero_add, (Bk.new w e g.vals.toArray).cell j]
    simpa using hu⟩⟩

set_option maxRecDepth 100000 in
set_option maxHeartbeats 4000000 in
theorem unote_any {lb rb : Nat} {most : Int} {L : List (Int × Ent)} {M : List MTab} {S Sr : Nat → Prop} (who t k : Int) (w : World) (h : LogAt w lb most L S) (hr : Rws w rb M Sr) (hg : Good M) (hw : (Lit.int .i64 who).wf = true) (hl : L.length ≤ 100000) :
    Calls Tryz.prog 49 #[lptr lb, .int .i64 who, rptr rb, .int .i64 t, .int .i64 k] w fun e w' => e = .returned (.int .i64 (noteE M most L t)) ∧ LogUpd w lb most (noteL M most L who t k) S w' := by
  have HL := Lib.hid h
  have HR := Lib.hid hr
  have HG := Lib.hid hg
  clear h hr hg
  go_enter Tryz.func49, Tryz.ntmps49
  go_wp2_with fail
  refine (api_cols t HR.out HG.out).mono ?_
  rintro e w1 ⟨rfl, hf1⟩
  have HF1 := Lib.hid hf1
  clear hf1
  by_cases h0 : (mtab M t).1 = 0
  · have HE : Hid (noteE M most L t = 2) := by
      have : noteE M most L t = 2 := by unfold noteE; rw [if_pos h0]
      exact this
    have HN : Hid (noteL M most L who t k = L) := by
      have : noteL M most L who t k = L := by unfold noteL; rw [HE.out]; rfl
      exact this
    rw [h0]
    clear h0
    go_wp2_with fail
    go_ret
    exact ⟨by rw [HE.out]; rfl, by rw [HN.out]; exact LogUpd.same HL.out HF1.out⟩
  · have h0' : (((mtab M t).1 : Int) == 0) = false := by rw [beq_eq_false_iff_ne]; omega
    obtain ⟨mb, M0, hG, hLe⟩ := HL.out
    have hG1 := hG.fr0 HF1.out
    have q0 := hG1.root.cell 0
    have q1 := hG1.root.cell 1
    have q2 := hG1.root.cell 2
    have HGG := Lib.hid hG
    have HLE := Lib.hid hLe
    have HE0 : Hid (noteE M most L t = if most ≤ (L.length : Int) then 3 else 0) := by
      have : noteE M most L t = if most ≤ (L.length : Int) then 3 else 0 := by unfold noteE; rw [if_neg h0]
      exact this
    clear h0 hG hLe
    by_cases h1 : most ≤ (L.length : Int)
    · have HE : Hid (noteE M most L t = 3) := by
        have : noteE M most L t = 3 := by rw [HE0.out, if_pos h1]
        exact this
      have HN : Hid (noteL M most L who t k = L) := by
        have : noteL M most L who t k = L := by unfold noteL; rw [HE.out]; rfl
        exact this
      clear hG1
      go_wp2_with fail
      go_quiet (fail)
      go_wp2_with fail
      go_ret
      exact ⟨by rw [HE.out]; rfl, by rw [HN.out]; exact LogUpd.same HL.out (HF1.out.drewN _)⟩
    · have HE : Hid (noteE M most L t = 0) := by
        have : noteE M most L t = 0 := by rw [HE0.out, if_neg h1]
        exact this
      have HN : Hid (noteL M most L who t k = L ++ [(who, entOf M t k)]) := by
        have : noteL M most L who t k = L ++ [(who, entOf M t k)] := by unfold noteL; rw [HE.out]; rfl
        exact this
      have hat1 := (hG1.at who).1
      have HROW := Lib.hid hat1.row
      obtain ⟨av, cv, hv⟩ := (SlAt.of_own hat1.row).1.shape
      have hlen : (ofM M0 who).es.length ≤ 100000 := by rw [ofM_len HLE.out]; exact Nat.le_trans (ofL_len L who) hl
      have k2 := KeptR.cell (R := RowOf M0 who) q2 (hG1.rowL who)
      have kl : ∀ w', KeptR (RowOf M0 who) w1 w' → (Instr.lookup 101 (.map (some mb)) (.int .i64 who) false).run Tryz.prog w' = .ok (.slice av (ofM M0 who).es.length cv) w' := fun w' hf => by
        rw [look_map (hG1.map.fr hf (hG1.rowM who)) hw, hv]
      have HV := Lib.hid hv
      have HD : Hid (∀ w3 w5 w6 w7 : World, ∀ (g : GEnt) (a6 : Option Addr) (c6 : Nat), Fr w1 w3 Nil → EntOk w3 g → (∀ j, g.has j → w1.heap.size ≤ j) → Fr w3 w5 Nil → w6.ownsRow 0 152 3 (.slice a6 ((ofM M0 who).es.length + 1) c6) ((ofM M0 who).es.length + 1) ((ofM M0 who).es.flatMap GEnt.vals ++ g.vals) → w5.grownBy w6 (ofM M0 who).v.ownBlock →
          ((Value.slice a6 ((ofM M0 who).es.length + 1) c6).ownBlock = (ofM M0 who).v.ownBlock ∨ (Value.slice a6 ((ofM M0 who).es.length + 1) c6).ownBlock = some w5.heap.size) → MapAt Tryz.prog 2 ikey GSl.v w7 mb (delM M0 who ++ [(who, ⟨.slice a6 ((ofM M0 who).es.length + 1) c6, (ofM M0 who).es ++ [g]⟩)]) → Fr w6 w7 (fun j => j = mb) →
          LogUpd w lb most (L ++ [(who, g.mod)]) S (w7.setCell ⟨lb, 1, none⟩ (.int .i64 ((L.length : Int) + 1)))) := fun w3 w5 w6 w7 g a6 c6 hf3 hge hgn hf5 ho hg6 hat hm7 hf7 =>
        note_done HGG.out HLE.out (HF1.out.trans0 hf3) hge (fun j hj => Nat.le_trans HF1.out.size (hgn j hj)) hf5 ho hg6 hat hm7 hf7
      have HM7 : Hid (∀ w5 w6 : World, Fr w1 w5 Nil → w5.grownBy w6 (ofM M0 who).v.ownBlock → MapAt Tryz.prog 2 ikey GSl.v w6 mb M0) := fun w5 w6 hf hg6 => MapAt.row HGG.out (HF1.out.trans0 hf) hg6
      have HMl : Hid (M0.length < maxLen) := by
        have : M0.length < maxLen := by
          have := hG1.few HLE.out
          unfold maxLen; omega
        exact this
      have HKY := Lib.hid (keyW hw)
      have HQ1 := Lib.hid q1
      have HFZ := Lib.hid (hG1.root.free 1)
      have HLT := Lib.hid hG1.root.lt
      have HNB : Hid (¬ (RowOf M0 who lb ∨ lb = mb)) := fun h => h.elim (hG1.rowL who) fun e => by
        subst e
        obtain ⟨D, ⟨es, ck, hm, _⟩, _⟩ := hG1.map
        have := hG1.root
        unfold Bk at this
        rw [this] at hm; cases hm
      clear hG1
      obtain ⟨RW, hRW⟩ : ∃ RW, RowOf M0 who = RW := ⟨_, rfl⟩
      have HRW : Hid (∀ j, (ofM M0 who).v.ownBlock = some j → RW j) := fun j hj => by rw [← hRW]; exact hj
      rw [hRW] at k2 kl HNB
      clear hRW
      generalize (ofM M0 who).es = es at *
      generalize (ofM M0 who).v = vv at *
      subst hv
      have hh1 : ¬ most ≤ (L.length : Int) := h1
      clear hat1 HV HE0
      go_wp2_with fail
      go_quiet (fail)
      rename_i nq
      clear q0 q1 q2
      go_wp2_with fail
      refine wp_region_sink 20 (KeptR RW w1) (by kernel_rfl) ?_
      have hSa : KeptN w1 (w1.drewN nq).drew := ((Fr.refl w1 Nil).drewN nq).drew
      have hSaw := hSa.weak RW
      refine wpAnyS_take (i := 0) (v := ?_) rfl (by kernel_rfl) (fun _ _ _ h => h) (by rfl) hSaw ?_ ?_
      rotate_left
      · intro w' hS'
        (try dsimp only at hS')
        go_simp <;> with_reducible rfl
      try simp only [Act.put, List.setIfInBounds_toArray, List.set_cons_zero, List.set_cons_succ]
      refine wpAnyS_take (i := 1) (v := ?_) rfl (by kernel_rfl) (fun _ _ _ h => h) (by rfl) hSaw ?_ ?_
      rotate_left
      · intro w' hS'
        (try dsimp only at hS')
        go_simp <;> with_reducible rfl
      try simp only [Act.put, List.setIfInBounds_toArray, List.set_cons_zero, List.set_cons_succ]
      refine wpAnyS_take (i := 2) (v := ?_) rfl (by kernel_rfl) (fun _ _ _ h => h) (by rfl) hSaw ?_ ?_
      rotate_left
      · intro w' hS'
        (try dsimp only at hS')
        go_simp <;> with_reducible rfl
      try simp only [Act.put, List.setIfInBounds_toArray, List.set_cons_zero, List.set_cons_succ]
      refine wpAnyS_take (i := 3) (v := ?_) rfl (by kernel_rfl) (fun _ _ _ h => h) (by rfl) hSaw ?_ ?_
      rotate_left
      · intro w' hS'
        have ck2 := k2 _ hS'
        go_simp <;> with_reducible rfl
      try simp only [Act.put, List.setIfInBounds_toArray, List.set_cons_zero, List.set_cons_succ]
      refine wpAnyS_take (i := 4) (v := ?_) rfl (by kernel_rfl) (fun _ _ _ h => h) (by rfl) hSaw ?_ ?_
      rotate_left
      · intro w' hS'
        (try dsimp only at hS')
        go_simp <;> with_reducible rfl
      try simp only [Act.put, List.setIfInBounds_toArray, List.set_cons_zero, List.set_cons_succ]
      refine wpAnyS_take (i := 5) (v := ?_) rfl (by kernel_rfl) (fun _ _ _ h => h) (by rfl) hSaw ?_ ?_
      rotate_left
      · intro w' hS'
        (try dsimp only at hS')
        go_simp <;> with_reducible rfl
      try simp only [Act.put, List.setIfInBounds_toArray, List.set_cons_zero, List.set_cons_succ]
      refine wpAnyS_take (i := 6) (v := ?_) rfl (by kernel_rfl) (fun _ _ _ h => h) (by rfl) hSaw ?_ ?_
      rotate_left
      · intro w' hS'
        (try dsimp only at hS')
        go_simp <;> with_reducible rfl
      try simp only [Act.put, List.setIfInBounds_toArray, List.set_cons_zero, List.set_cons_succ]
      refine wpAnyS_take (i := 7) (v := ?_) rfl (by kernel_rfl) (fun _ _ _ h => h) (by rfl) hSaw ?_ ?_
      rotate_left
      · intro w' hS'
        (try dsimp only at hS')
        go_simp <;> with_reducible rfl
      try simp only [Act.put, List.setIfInBounds_toArray, List.set_cons_zero, List.set_cons_succ]
      refine wpAnyS_take (i := 8) (v := ?_) rfl (by kernel_rfl) (fun _ _ _ h => h) (by rfl) hSaw ?_ ?_
      rotate_left
      · intro w' hS'
        have ck2 := k2 _ hS'
        go_simp <;> with_reducible rfl
      try simp only [Act.put, List.setIfInBounds_toArray, List.set_cons_zero, List.set_cons_succ]
      refine wpAnyS_take (i := 9) (v := ?_) rfl (by kernel_rfl) (fun _ _ _ h => h) (by rfl) hSaw ?_ ?_
      rotate_left
      · intro w' hS'
        (try dsimp only at hS')
        go_simp <;> with_reducible rfl
      try simp only [Act.put, List.setIfInBounds_toArray, List.set_cons_zero, List.set_cons_succ]
      refine wpAnyS_take (i := 10) (v := ?_) rfl (by kernel_rfl) (fun _ _ _ h => h) (by rfl) hSaw ?_ ?_
      rotate_left
      · intro w' hS'
        have ckl := kl _ hS'
        go_simp <;> with_reducible rfl
      try simp only [Act.put, List.setIfInBounds_toArray, List.set_cons_zero, List.set_cons_succ]
      refine wpAnyS_take (i := 11) (v := ?_) rfl (by kernel_rfl) (fun _ _ _ h => h) (by rfl) hSaw ?_ ?_
      rotate_left
      · intro w' hS'
        (try dsimp only at hS')
        go_simp <;> with_reducible rfl
      try simp only [Act.put, List.setIfInBounds_toArray, List.set_cons_zero, List.set_cons_succ]
      refine wpAnyS_take (i := 12) (v := ?_) rfl (by kernel_rfl) (fun _ _ _ h => h) (by rfl) hSaw ?_ ?_
      rotate_left
      · intro w' hS'
        (try dsimp only at hS')
        go_simp <;> with_reducible rfl
      try simp only [Act.put, List.setIfInBounds_toArray, List.set_cons_zero, List.set_cons_succ]
      refine wpAnyS_take (i := 13) (v := ?_) rfl (by kernel_rfl) (fun _ _ _ h => h) (by rfl) hSaw ?_ ?_
      rotate_left
      · intro w' hS'
        (try dsimp only at hS')
        go_simp <;> with_reducible rfl
      try simp only [Act.put, List.setIfInBounds_toArray, List.set_cons_zero, List.set_cons_succ]
      refine wpAnyS_take (i := 14) (v := ?_) rfl (by kernel_rfl) (fun _ _ _ h => h) (by rfl) hSaw ?_ ?_
      rotate_left
      · intro w' hS'
        (try dsimp only at hS')
        go_simp <;> with_reducible rfl
      try simp only [Act.put, List.setIfInBounds_toArray, List.set_cons_zero, List.set_cons_succ]
      refine wpAnyS_take (i := 15) (v := ?_) rfl (by kernel_rfl) (fun _ _ _ h => h) (by rfl) hSaw ?_ ?_
      rotate_left
      · intro w' hS'
        (try dsimp only at hS')
        go_simp <;> with_reducible rfl
      try simp only [Act.put, List.setIfInBounds_toArray, List.set_cons_zero, List.set_cons_succ]
      refine wpAnyS_one (i := 16) rfl (by kernel_rfl) (by decide) (by rfl) fun K hK => ?_
      go_simp
      refine (backs_any t k _ (HR.out.fr0 (HF1.out.trans0 hSa)) HG.out).mono ?_
      rintro e w3 ⟨g, rfl, hgm, hge, hgn, hf3⟩
      have hSb : KeptN w1 w3 := hSa.next hf3
      have hSbw := hSb.weak RW
      obtain ⟨gf, gc, hgv⟩ := g.shape
      have HVS : Hid (g.vals = [.int .i64 t, .int .i64 k, .func gf #[] gc]) := by
        have h1 : g.table = t := congrArg Prod.fst hgm
        have h2 : g.key = k := congrArg (fun p : Ent => p.2.1) hgm
        have : g.vals = [.int .i64 t, .int .i64 k, .func gf #[] gc] := by unfold GEnt.vals; rw [h1, h2, hgv]
        exact this
      rw [hgv]
      refine hK.out _ _ hSbw ?_
      clear hK K hgv
      have HGE := Lib.hid hge
      have HGM := Lib.hid hgm
      have HGN : Hid (∀ j, g.has j → w1.heap.size ≤ j) := fun j hj => Nat.le_trans hSa.fr.size (hgn j hj)
      clear hge hgn hf3 hgm
      try simp only [Act.put, List.setIfInBounds_toArray, List.set_cons_zero, List.set_cons_succ]
      refine wpAnyS_take (i := 17) (v := ?_) rfl (by kernel_rfl) (fun _ _ _ h => h) (by rfl) hSbw ?_ ?_
      rotate_left
      · intro w' hS'
        (try dsimp only at hS')
        go_simp <;> with_reducible rfl
      try simp only [Act.put, List.setIfInBounds_toArray, List.set_cons_zero, List.set_cons_succ]
      refine wpAnyS_one (i := 18) rfl (by kernel_rfl) (by decide) (by rfl) fun K hK => ?_
      go_simp
      have hSc : KeptN w1 (w3.alloc (.cells #[.int .i64 t, .int .i64 k, .func gf #[] gc] 152)) := hSb.fr.alloc _
      have hf5 : Fr w3 (w3.alloc (.cells #[.int .i64 t, .int .i64 k, .func gf #[] gc] 152)) Nil := (Fr.refl w3 Nil).alloc _
      have hsl := sl_gent w3 152 g
      rw [HVS.out] at hsl
      refine hK.out _ _ (hSc.weak RW) ?_
      clear hK K
      try simp only [Act.put, List.setIfInBounds_toArray, List.set_cons_zero, List.set_cons_succ]
      refine wpAnyS_one (i := 19) rfl (by kernel_rfl) (by decide) (by rfl) fun K hK => ?_
      refine wp_app _ _ _ _ (by rfl) sent (.slice av es.length cv) (by rfl) (Fr.own (hSc.fr) HROW.out (fun _ _ h => h)) (.slice (some ⟨w3.heap.size, 0, none⟩) 1 1) (by rfl) hsl (by rw [← HVS.out]; exact g.one) (by omega) ?_
      intro a6 c6 w6 ho6 hg6 hat6
      have hSd : KeptR RW w1 w6 := Fr.grown (hSc.weak RW) hg6 fun j hj _ => HRW.out j hj
      refine hK.out _ _ hSd ?_
      clear hK K
      try simp only [Act.put, List.setIfInBounds_toArray, List.set_cons_zero, List.set_cons_succ]
      refine wpAnyS_last (i := 20) rfl (by kernel_rfl) (by decide) (by kernel_rfl) (by rfl) fun K hK => ?_
      refine wp_map_set _ _ _ _ _ (by rfl) 2 138 Tryz.keyI64 Tryz.underlying101 intKey mb M0 HMl.out (by rfl) (HM7.out _ _ hSc hg6) _ who (by rfl) HKY.out (⟨.slice a6 (es.length + 1) c6, es ++ [g]⟩ : GSl) (by rfl) ?_
      intro w7 hm7 hf7
      refine hK.out _ _ ?_
      clear hK K
      have HDD := Lib.hid (HD.out w3 _ w6 w7 g a6 c6 hSb HGE.out HGN.out hf5 (by rw [HVS.out]; exact ho6) hg6 hat6 hm7 hf7)
      rw [HGM.out] at HDD
      have hSe : Fr w1 w7 (fun j => RW j ∨ j = mb) := Fr.transS (Fr.mono hSd fun _ _ h => .inl h) (hf7.mono fun _ _ h => .inr h)
      have q1 := hSe.cell HQ1.out HNB.out
      have q2 := (hSe.frozen (p := ⟨lb, 1, none⟩) HLT.out HNB.out).trans HFZ.out
      clear hSa hSaw hSb hSbw hSc hf5 hsl ho6 hg6 hat6 hSd k2 kl
      go_wp2_with fail
      go_ret
      exact ⟨by rw [HE.out]; rfl, by rw [HN.out]; exact HDD.out⟩
end Go.Proofs.YtgpekgnhbccnoaaGreat
namespace Go.Proofs.YtgpekgnhbccnoaaGreat
open Go Go.RowKit

structure InstrD where
  op : Int
  node : Int
  mode : Int
  tab : Int
  row : Bool
  col : Int
  var : Int
  dst : Int
  eq : Bool
  fro : Int
  upto : Int
  key : List TermD
  vals : List (List TermD)
deriving DecidableEq, Inhabited

def valP (vars : List Int) (l : List TermD) : Int := (evalP vars l).1
structure WantD where
  kind : Int
  tab : Int
  row : Bool
  key : Int
  mode : Int
  touched : Bool
  wrote : Bool
deriving DecidableEq
def WantD.zero : WantD := ⟨0, 0, false, 0, 0, false, false⟩
/-- What the next one is. -/
def nextP (n : InstrD) (vars : List Int) : WantD :=
  if n.op = 1 then ⟨2, n.tab, n.row, if n.row then valP vars n.key else 0, n.mode, false, false⟩
  else if n.op = 2 then ⟨3, n.tab, n.row, if n.row then valP vars n.key else 0, n.mode, false, false⟩
  else if n.op = 3 then ⟨1, n.tab, true, valP vars n.key, 0, true, false⟩
  else if n.op = 4 ∨ n.op = 5 ∨ n.op = 6 then ⟨1, n.tab, true, valP vars n.key, 0, true, true⟩
  else if n.op = 7 then ⟨1, n.tab, false, 0, 0, true, false⟩
  else if n.op = 14 then ⟨5, 0, false, 0, 0, false, false⟩
  else if n.op = 15 then ⟨4, 0, false, 0, 0, false, false⟩
  else if n.op = 16 then ⟨6, 0, false, 0, 0, false, false⟩
  else ⟨1, 0, false, 0, 0, false, false⟩
/-- Does it jump? -/
def leaps (n : InstrD) (vars : List Int) : Bool :=
  (n.eq && !decide (valP vars (n.vals.getD 0 []) = valP vars (n.vals.getD 1 []))) || (!n.eq && decide (valP vars (n.vals.getD 1 []) ≤ valP vars (n.vals.getD 0 [])))
def onP (n : InstrD) (vars : List Int) : List Int × Option Int :=
  if n.op = 10 then (vars, some n.dst)
  else if n.op = 11 then (vars, if leaps n vars then some n.dst else none)
  else if n.op = 12 then (vars.set n.var.toNat n.fro, if n.upto < n.fro then some n.dst else none)
  else if n.op = 13 then if vars.getD n.var.toNat 0 < n.upto then (vars.set n.var.toNat (wrap64 (vars.getD n.var.toNat 0 + 1)), some n.dst) else (vars, none)
  else (vars, none)
def doM (n : InstrD) (vars : List Int) (M : List MTab) : List MTab :=
  if n.op = 4 then (mset M n.tab (valP vars n.key) n.col (valP vars (n.vals.getD 0 []))).1
  else if n.op = 5 then (mput M n.tab (valP vars n.key) (n.vals.map (valP vars))).1
  else if n.op = 6 then (mdel M n.tab (valP vars n.key)).1
  else M
def readP (n : InstrD) (vars : List Int) (M : List MTab) : Int := match mget (mtab M n.tab) (valP vars n.key) with
  | some cols => cols.getD n.col.toNat 0
  | none => 0
def doV (n : InstrD) (vars : List Int) (M : List MTab) : List Int :=
  if n.op = 3 then vars.set n.var.toNat (readP n vars M)
  else if n.op = 7 then vars.set n.var.toNat (msum (mtab M n.tab) n.col)
  else if n.op = 8 then vars.set n.var.toNat (valP vars (n.vals.getD 0 []))
  else vars
def doO (n : InstrD) (vars out : List Int) : List Int := if n.op = 9 then out ++ [valP vars (n.vals.getD 0 [])] else out
/-- Where it is, its variables, what it told; the rows; the log. -/
structure MachD where
  at' : Nat
  vars : List Int
  out : List Int
  M : List MTab
  lg : List (Int × Ent)
def wentP (n : InstrD) (s : MachD) (lg : List (Int × Ent)) : MachD :=
  ⟨match (onP n (doV n s.vars s.M)).2 with | some t => t.toNat | none => s.at' + 1, (onP n (doV n s.vars s.M)).1, doO n s.vars s.out, doM n s.vars s.M, lg⟩
/-- One step: what it wants or did; the error; what is left. -/
def stepM (L : List InstrD) (most who : Int) (s : MachD) : WantD × Int × MachD :=
  let n := L.getD s.at' default
  let w := nextP n s.vars
  if w.kind ≠ 1 then (w, 0, s)
  else if w.wrote = true then
    if noteE s.M most s.lg n.tab = 0 then (w, 0, wentP n s (noteL s.M most s.lg who n.tab w.key)) else (WantD.zero, noteE s.M most s.lg n.tab, s)
  else (w, 0, wentP n s s.lg)

/-- What is asked of an instruction's fields. -/
structure IOk (TB : List Int) (nv size : Nat) (n : InstrD) : Prop where
  lo : 1 ≤ n.op
  hi : n.op ≤ 16
  tab : n.op ≤ 7 → 0 ≤ n.tab ∧ n.tab < TB.length
  col : n.op = 3 ∨ n.op = 4 ∨ n.op = 7 → 0 ≤ n.col ∧ n.col < TB.getD n.tab.toNat 0
  var : n.op = 3 ∨ n.op = 7 ∨ n.op = 8 ∨ n.op = 12 ∨ n.op = 13 → 0 ≤ n.var ∧ n.var < nv
  dst : 10 ≤ n.op ∧ n.op ≤ 13 → 0 ≤ n.dst ∧ n.dst < size
  one : n.op = 4 ∨ n.op = 8 ∨ n.op = 9 → n.vals.length = 1
  two : n.op = 11 → n.vals.length = 2
  many : n.op = 5 → (n.vals.length : Int) = TB.getD n.tab.toNat 0
structure COk (TB : List Int) (nv : Nat) (L : List InstrD) : Prop where
  all : ∀ (i : Nat) (n : InstrD), L[i]? = some n → IOk TB nv L.length n
  last : ∀ (i : Nat) (n : InstrD), L[i]? = some n → (n.op = 16 ↔ i + 1 = L.length)
  ne : 0 < L.length
theorem nextP_kind {n : InstrD} (vars : List Int) (h1 : 1 ≤ n.op) (h2 : n.op ≤ 16) : ((nextP n vars).kind = 1 ↔ 3 ≤ n.op ∧ n.op ≤ 13) := by
  unfold nextP
  repeat' split
  all_goals simp
  all_goals omega
theorem nextP_wrote {n : InstrD} (vars : List Int) : ((nextP n vars).wrote = true ↔ 4 ≤ n.op ∧ n.op ≤ 6) := by
  unfold nextP
  repeat' split
  all_goals simp
  all_goals omega
theorem nextP_key {n : InstrD} (vars : List Int) (h : 4 ≤ n.op ∧ n.op ≤ 6) : (nextP n vars).key = valP vars n.key := by
  unfold nextP
  repeat' split
  all_goals first | rfl | omega
theorem onP_len {n : InstrD} (vars : List Int) : (onP n vars).1.length = vars.length := by
  unfold onP
  repeat' split
  all_goals simp
theorem doV_len {n : InstrD} (vars : List Int) (M : List MTab) : (doV n vars M).length = vars.length := by
  unfold doV
  repeat' split
  all_goals simp
theorem onP_dst {n : InstrD} {vars : List Int} {t : Int} (h : (onP n vars).2 = some t) : t = n.dst ∧ 10 ≤ n.op ∧ n.op ≤ 13 := by
  unfold onP at h
  repeat' split at h
  all_goals first | (simp at h; done) | skip
  all_goals simp at h
  all_goals first | (obtain ⟨_, rfl⟩ := h; exact ⟨rfl, by omega⟩) | (subst h; exact ⟨rfl, by omega⟩)
end Go.Proofs.YtgpekgnhbccnoaaGreat
namespace Go.Proofs.YtgpekgnhbccnoaaGreat
open Go Go.RowKit

def goodP (nv : Nat) (t : List TermD) : Bool := (evalP (List.replicate nv 0) t).2
def Keyed (n : InstrD) : Prop := (3 ≤ n.op ∧ n.op ≤ 6) ∨ (n.op ≤ 2 ∧ n.row = true)
/-- The fields that its kind has not are nothing. -/
structure BareP (n : InstrD) : Prop where
  mode : n.op ≠ 1 → n.mode = 0
  tab : 8 ≤ n.op → n.tab = 0
  row : 3 ≤ n.op → n.row = false
  col : ¬ (n.op = 3 ∨ n.op = 4 ∨ n.op = 7) → n.col = 0
  var : ¬ (n.op = 3 ∨ n.op = 7 ∨ n.op = 8 ∨ n.op = 12 ∨ n.op = 13) → n.var = 0
  dst : ¬ (10 ≤ n.op ∧ n.op ≤ 13) → n.dst = 0
  eq : n.op ≠ 11 → n.eq = false
  fro : n.op ≠ 12 → n.fro = 0
  upto : ¬ (n.op = 12 ∨ n.op = 13) → n.upto = 0
  key : 7 ≤ n.op → n.key = []
  vals : ¬ (n.op = 4 ∨ n.op = 5 ∨ n.op = 8 ∨ n.op = 9 ∨ n.op = 11) → n.vals = []
def wantN (TB : List Int) (n : InstrD) : Int :=
  if n.op = 4 ∨ n.op = 8 ∨ n.op = 9 then 1 else if n.op = 11 then 2 else if n.op = 5 then TB.getD n.tab.toNat 0 else 0
def TabP (TB : List Int) (n : InstrD) : Prop := n.op ≤ 7 → 0 ≤ n.tab ∧ n.tab < TB.length
def ColP (TB : List Int) (n : InstrD) : Prop := n.op = 3 ∨ n.op = 4 ∨ n.op = 7 → 0 ≤ n.col ∧ n.col < TB.getD n.tab.toNat 0
def VarP (nv : Nat) (n : InstrD) : Prop := n.op = 3 ∨ n.op = 7 ∨ n.op = 8 ∨ n.op = 12 ∨ n.op = 13 → 0 ≤ n.var ∧ n.var < nv
def DstP (size : Nat) (n : InstrD) : Prop := 10 ≤ n.op ∧ n.op ≤ 13 → 0 ≤ n.dst ∧ n.dst < size
def ModeP (n : InstrD) : Prop := n.op = 1 → n.mode = 3 ∨ n.mode = 5 ∨ (n.row = false ∧ (n.mode = 1 ∨ n.mode = 2))
def KeyP (nv : Nat) (n : InstrD) : Prop := (Keyed n → goodP nv n.key = true) ∧ (¬ Keyed n → n.key = [])
def ValsP (TB : List Int) (nv : Nat) (n : InstrD) : Prop := (n.vals.length : Int) = wantN TB n ∧ n.vals.all (goodP nv) = true
structure OneP (TB : List Int) (nv size : Nat) (n : InstrD) : Prop where
  op : 1 ≤ n.op ∧ n.op ≤ 16
  bare : BareP n
  tab : TabP TB n
  col : ColP TB n
  var : VarP nv n
  dst : DstP size n
  mode : ModeP n
  key : KeyP nv n
  vals : ValsP TB nv n
theorem OneP.ok {TB : List Int} {nv size : Nat} {n : InstrD} (h : OneP TB nv size n) : IOk TB nv size n where
  lo := h.op.1
  hi := h.op.2
  tab := h.tab
  col := h.col
  var := h.var
  dst := h.dst
  one hq := by have := h.vals.1; unfold wantN at this; rw [if_pos hq] at this; omega
  two hq := by have := h.vals.1; unfold wantN at this; rw [if_neg (by omega), if_pos hq] at this; omega
  many hq := by have := h.vals.1; unfold wantN at this; rw [if_neg (by omega), if_neg (by omega), if_pos hq] at this; exact this
def insAt (L : List InstrD) (i : Nat) : InstrD := L.getD i default
structure RightP (TB : List Int) (nv : Int) (L : List InstrD) : Prop where
  ne : 0 < L.length
  pos : 0 ≤ nv
  one : ∀ (i : Nat) (n : InstrD), L[i]? = some n → OneP TB nv.toNat L.length n ∧ (n.op = 16 ↔ i + 1 = L.length)
  jump : ∀ (k i : Nat) (m n : InstrD), L[k]? = some m → L[i]? = some n → 10 ≤ m.op ∧ m.op ≤ 13 → n.op = 15 → ¬ (k < i ∧ (i : Int) < m.dst) ∧ ¬ (i < k ∧ m.dst ≤ (i : Int))
theorem RightP.ok {TB : List Int} {nv : Int} {L : List InstrD} (h : RightP TB nv L) : COk TB nv.toNat L where
  all i n hn := (h.one i n hn).1.ok
  last i n hn := (h.one i n hn).2
  ne := h.ne
/-- No mark of a piece lies within what a jump passes over: as the program looks. -/
theorem jump_seg {L : List InstrD} {k : Nat} {m : InstrD} (hk : L[k]? = some m) (hm : 10 ≤ m.op ∧ m.op ≤ 13) (h0 : 0 ≤ m.dst ∧ m.dst < L.length) {lo hi : Nat} (hlo : lo = min k m.dst.toNat) (hhi : hi = if (k : Int) < m.dst then max k m.dst.toNat else max k m.dst.toNat + 1) :
    (((L.drop lo).take (hi - lo)).any (fun n => decide (n.op = 15)) = false) ↔ ∀ (i : Nat) (n : InstrD), L[i]? = some n → n.op = 15 → ¬ (k < i ∧ (i : Int) < m.dst) ∧ ¬ (i < k ∧ m.dst ≤ (i : Int)) := by
  rw [List.any_eq_false]
  constructor
  · intro h i n hi2 hn
    have key : lo ≤ i → i < hi → False := fun h1 h2 => by
      refine h n ?_ (by simpa using hn)
      have : ((L.drop lo).take (hi - lo))[i - lo]? = some n := by
        rw [List.getElem?_take, if_pos (by omega), List.getElem?_drop, ← hi2]
        congr 1; omega
      exact List.mem_of_getElem? this
    constructor
    · rintro ⟨a, b⟩
      rw [if_pos (by omega)] at hhi
      exact key (by omega) (by omega)
    · rintro ⟨a, b⟩
      rw [if_neg (by omega)] at hhi
      exact key (by omega) (by omega)
  · intro h n hn hq
    have hq : n.op = 15 := by simpa using hq
    obtain ⟨j, hj⟩ := List.getElem?_of_mem hn
    rw [List.getElem?_take] at hj
    split at hj
    · rw [List.getElem?_drop] at hj
      obtain ⟨h1, h2⟩ := h _ n hj hq
      have hne : lo + j ≠ k := fun e => by
        rw [e, hk] at hj
        cases hj
        omega
      by_cases e : (k : Int) < m.dst
      · rw [if_pos e] at hhi
        exact h1 ⟨by omega, by omega⟩
      · rw [if_neg e] at hhi
        exact h2 ⟨by omega, by omega⟩
    · cases hj
end Go.Proofs.YtgpekgnhbccnoaaGreat
namespace Go.Proofs.YtgpekgnhbccnoaaGreat
open Go Go.RowKit

/-- The place of who's last entry, of the first n; -1: it has none. -/
def lastI (L : List (Int × Ent)) (who : Int) : Nat → Int
  | 0 => -1
  | n + 1 => match L[n]? with
    | some p => if p.1 == who then (n : Int) else lastI L who n
    | none => lastI L who n
def backL (L : List (Int × Ent)) (who : Int) : List (Int × Ent) := if lastI L who L.length < 0 then L else L.eraseIdx (lastI L who L.length).toNat
theorem lastI_succ {L : List (Int × Ent)} {who : Int} {n : Nat} {p : Int × Ent} (h : L[n]? = some p) : lastI L who (n + 1) = if p.1 == who then (n : Int) else lastI L who n := by simp only [lastI, h]
theorem ofL_append (A B : List (Int × Ent)) (x : Int) : ofL (A ++ B) x = ofL A x ++ ofL B x := by simp [ofL]
theorem ofL_cons (p : Int × Ent) (B : List (Int × Ent)) (x : Int) : ofL (p :: B) x = if p.1 = x then p.2 :: ofL B x else ofL B x := by
  unfold ofL
  by_cases h : p.1 = x
  · rw [if_pos h, List.filter_cons_of_pos (by simpa using h)]; rfl
  · rw [if_neg h, List.filter_cons_of_neg (by simpa using h)]
theorem ofL_none {B : List (Int × Ent)} {x : Int} (h : ∀ p ∈ B, p.1 ≠ x) : ofL B x = [] := by
  unfold ofL
  rw [List.filter_eq_nil_iff.2 fun p hp => by simpa using h p hp]
  rfl
theorem last_spec (L : List (Int × Ent)) (who : Int) : ∀ n, n ≤ L.length → (lastI L who n = -1 ∧ ∀ p ∈ L.take n, p.1 ≠ who) ∨ ∃ A e B, L.take n = A ++ (who, e) :: B ∧ (∀ p ∈ B, p.1 ≠ who) ∧ lastI L who n = (A.length : Nat) := by
  intro n
  induction n with
  | zero => intro _; exact .inl ⟨rfl, fun p hp => by simp at hp⟩
  | succ n ih =>
    intro hn
    have hg := List.getElem?_eq_getElem (show n < L.length by omega)
    have hts := List.take_succ_eq_append_getElem (show n < L.length by omega)
    generalize L[n] = p at hg hts
    rw [hts, lastI_succ hg]
    cases hp : (p.1 == who) with
    | true =>
      rw [beq_iff_eq] at hp
      refine .inr ⟨L.take n, p.2, [], by rw [← hp], (fun q hq => by cases hq), ?_⟩
      simp; omega
    | false =>
      rw [beq_eq_false_iff_ne] at hp
      rw [if_neg (by simp)]
      rcases ih (by omega) with ⟨h1, h2⟩ | ⟨A, e, B, h1, h2, h3⟩
      · refine .inl ⟨h1, fun q hq => ?_⟩
        rcases List.mem_append.1 hq with hq | hq
        · exact h2 q hq
        · simp at hq; subst hq; exact hp
      · refine .inr ⟨A, e, B ++ [p], by rw [h1]; simp, fun q hq => ?_, h3⟩
        rcases List.mem_append.1 hq with hq | hq
        · exact h2 q hq
        · simp at hq; subst hq; exact hp
theorem back_cases (L : List (Int × Ent)) (who : Int) : (ofL L who = [] ∧ lastI L who L.length = -1 ∧ backL L who = L) ∨ ∃ A e B, L = A ++ (who, e) :: B ∧ (∀ p ∈ B, p.1 ≠ who) ∧ lastI L who L.length = (A.length : Nat) ∧ backL L who = A ++ B ∧ ofL L who = ofL A who ++ [e] := by
  rcases last_spec L who L.length (Nat.le_refl _) with ⟨h1, h2⟩ | ⟨A, e, B, h1, h2, h3⟩
  · rw [List.take_length] at h2
    refine .inl ⟨ofL_none h2, h1, ?_⟩
    unfold backL
    rw [if_pos (by omega)]
  · rw [List.take_length] at h1
    refine .inr ⟨A, e, B, h1, h2, h3, ?_, ?_⟩
    · unfold backL
      rw [if_neg (by omega), h3, Int.toNat_natCast]
      rw [h1, List.eraseIdx_append_of_length_le (Nat.le_refl _)]
      simp
    · rw [h1, ofL_append, ofL_cons, if_pos rfl, ofL_none h2]
theorem back_some {L : List (Int × Ent)} {who : Int} {ds : List Ent} {x : Ent} (h : ofL L who = ds ++ [x]) : (∀ y, ofL (backL L who) y = if y = who then ds else ofL L y) ∧ (backL L who).length + 1 = L.length := by
  rcases back_cases L who with ⟨h1, _⟩ | ⟨A, e, B, h1, h2, h3, h4, h5⟩
  · rw [h1] at h; simp at h
  · have ha : ofL A who = ds := by
      rw [h5] at h
      exact (List.append_inj_left' h rfl)
    refine ⟨fun y => ?_, by rw [h4, h1]; simp; omega⟩
    rw [h4]
    by_cases e2 : y = who
    · subst e2
      rw [if_pos rfl, ofL_append, ofL_none h2, List.append_nil, ha]
    · rw [if_neg e2, h1, ofL_append, ofL_append, ofL_cons, if_neg (fun e => e2 e.symm)]
theorem back_same {L : List (Int × Ent)} {who : Int} (h : ofL L who = []) : backL L who = L := by
  rcases back_cases L who with ⟨_, _, h3⟩ | ⟨A, e, B, h1, h2, h3, h4, h5⟩
  · exact h3
  · rw [h5] at h; simp at h
def forgetL (L : List (Int × Ent)) (who : Int) : List (Int × Ent) := L.filter fun p => !(p.1 == who)
theorem forget_of (L : List (Int × Ent)) (who y : Int) : ofL (forgetL L who) y = if y = who then [] else ofL L y := by
  unfold ofL forgetL
  rw [List.filter_filter]
  by_cases e : y = who
  · subst e
    rw [if_pos rfl, List.filter_eq_nil_iff.2 fun p _ => by simp]
    rfl
  · rw [if_neg e]
    congr 1
    refine List.filter_congr fun p _ => ?_
    by_cases h : p.1 = y
    · simp [h, e]
    · simp [h]
theorem forget_len (L : List (Int × Ent)) (who : Int) : (forgetL L who).length + (ofL L who).length = L.length := by
  unfold ofL forgetL
  rw [List.length_map]
  induction L with
  | nil => rfl
  | cons p L ih =>
    by_cases h : p.1 = who
    · rw [List.filter_cons_of_neg (by simp [h]), List.filter_cons_of_pos (by simp [h])]
      simp only [List.length_cons]; omega
    · rw [List.filter_cons_of_pos (by simp [h]), List.filter_cons_of_neg (by simp [h])]
      simp only [List.length_cons]; omega
theorem own_cut {w : World} {base : Nat} {e : TypeId} {size n k c : Nat} {a : Option Addr} {xs : List Value} (h : w.ownsRow base e size (.slice a n c) n xs) (hk : k ≤ n) : w.ownsRow base e size (.slice a k c) k (xs.take (k * size)) := by
  refine ⟨by rw [List.length_take, h.1, Nat.min_eq_left (Nat.mul_le_mul_right _ hk)], ?_⟩
  rcases h.2 with ⟨h1, h2⟩ | ⟨g, cap, cur, h1, h2, h3, h4, h5, h6, h7⟩
  · cases h1
    exact .inl ⟨by rw [show k = 0 by omega], by omega⟩
  · cases h1
    refine .inr ⟨g, c, cur, rfl, h2, h3, by omega, h5, h6, ?_⟩
    rw [← h7, List.take_take, Nat.min_eq_left (Nat.mul_le_mul_right _ hk)]
end Go.Proofs.YtgpekgnhbccnoaaGreat
namespace Go.Proofs.YtgpekgnhbccnoaaGreat
open Go Go.RowKit Go.Maps

def UBackRet (lb : Nat) (most : Int) (L : List (Int × Ent)) (S : Nat → Prop) (rb : Nat) (M : List MTab) (Sr : Nat → Prop) (who : Int) (w : World) (e : Ending) (w' : World) : Prop :=
  (ofL L who = [] ∧ e = .returned (.bool false) ∧ Fr w w' Nil) ∨
  (∃ ds x, ofL L who = ds ++ [x] ∧ e = .returned (.bool true) ∧ LogAt w' lb most (backL L who) S ∧ (∃ Sr', Rws w' rb (undoE M x) Sr' ∧ ∀ k, Sr' k → Sr k ∨ w.heap.size ≤ k) ∧ Fr w w' (fun k => S k ∨ Sr k))
theorem snoc_of {α : Type} {l : List α} (h : l ≠ []) : ∃ ds x, l = ds ++ [x] := ⟨l.dropLast, l.getLast h, (List.dropLast_concat_getLast h).symm⟩
theorem gent_cell {w : World} {b n c : Nat} {es : List GEnt} {g : GEnt} (h : w.ownsRow 0 152 3 (.slice (some ⟨b, 0, none⟩) n c) n ((es ++ [g]).flatMap GEnt.vals)) : w.cell? ⟨b, es.length * 3 + 2, none⟩ = some g.fv := by
  have h1 := h.cells (g := b) rfl (es.length * 3 + 2) g.fv (by
    have := flat_get (f := GEnt.vals) (n := 3) (fun _ => rfl) (l := es ++ [g]) (i := es.length) (t := g) (by simp) 2 (by decide)
    rw [this]; rfl)
  rwa [Addr.add_lit, Nat.zero_add] at h1
theorem delM_put (M : List (Int × GSl)) (who : Int) (g : GSl) : (delM M who ++ [(who, g)]).filter (fun p => !decide (p.1 = who)) = delM M who := by
  rw [List.filter_append, List.filter_cons_of_neg (by simp), List.filter_nil, List.append_nil]
  unfold delM
  rw [List.filter_filter]
  simp
/-- The log behind a taking back: one entry less. -/
theorem back_done {w2 w3 w4 : World} {lb mb a c m : Nat} {most : Int} {L : List (Int × Ent)} {M : List (Int × GSl)} {S : Nat → Prop} {who : Int} {es : List GEnt} {g : GEnt} (h : LogG w2 lb mb most (L.length : Nat) M S) (hL : ∀ x, (ofM M x).es.map GEnt.mod = ofL L x)
    (hes : (ofM M who).es = es ++ [g]) (hv : (ofM M who).v = .slice (some ⟨a, 0, none⟩) (es.length + 1) c) (hm : es.length = m) (hm3 : m ≠ 0 → MapAt Tryz.prog 2 ikey GSl.v w3 mb (delM M who ++ [(who, ⟨.slice (some ⟨a, 0, none⟩) m c, es⟩)])) (hm0 : m = 0 → MapAt Tryz.prog 2 ikey GSl.v w3 mb (delM M who)) (hf3 : Fr w2 w3 (fun j => j = lb ∨ j = mb))
    (hr3 : Bk w3 lb 103 [.int .i64 most, .int .i64 ((L.length : Int) - 1), .map (some mb)]) (h4 : w4 = w3) : LogAt w4 lb most (backL L who) S := by
  subst h4
  obtain ⟨hnb, hts, hto⟩ := h.turns (who := who)
  have hat0 := (h.at who).1
  have hof : ofL L who = es.map GEnt.mod ++ [g.mod] := by rw [← hL, hes]; simp
  obtain ⟨hb1, hb2⟩ := back_some hof
  have hf : Fr w2 w4 (Turns lb mb M who) := hf3.mono fun k _ hk => hk.elim .inl fun h => .inr (.inl h)
  have hlen : ((L.length : Int) - 1) = ((backL L who).length : Nat) := by omega
  have hrow : w2.ownsRow 0 152 3 (.slice (some ⟨a, 0, none⟩) (es.length + 1) c) (es.length + 1) ((es ++ [g]).flatMap GEnt.vals) := by
    have := hat0.row
    rw [hes, hv, List.length_append] at this
    exact this
  have hnot : ∀ k, (ofM M who).v.ownBlock = some k → ¬ (k = lb ∨ k = mb) := fun k hk e => by
    rcases e with rfl | rfl
    · exact h.rowL who hk
    · exact h.rowM who hk
  rw [hlen] at hr3
  by_cases h0 : m = 0
  · have he : es = [] := List.eq_nil_of_length_eq_zero (hm.trans h0)
    refine ⟨mb, delM M who, h.drop who hr3 (hm0 h0) hf, fun x => ?_⟩
    rw [ofM_del, hb1]
    by_cases e : x = who
    · rw [if_pos e, if_pos e, he, List.map_nil]
    · rw [if_neg e, if_neg e]; exact hL x
  · have hrow3 : w4.ownsRow 0 152 3 (.slice (some ⟨a, 0, none⟩) m c) es.length (es.flatMap GEnt.vals) := by
      have h1 := own_cut (k := es.length) hrow (by omega)
      have h2 := hf3.own h1 fun k hk => hnot k (by rw [hv]; exact hk)
      rw [List.flatMap_append, List.take_append_of_le_length (by rw [flat_len (f := GEnt.vals) (n := 3) (fun _ => rfl)]; omega), List.take_of_length_le (by rw [flat_len (f := GEnt.vals) (n := 3) (fun _ => rfl)]; omega)] at h2
      rw [← hm]
      exact h2
    refine ⟨mb, delM M who ++ [(who, ⟨.slice (some ⟨a, 0, none⟩) m c, es⟩)], h.set (fun _ h => h) (fun k hk => Nat.lt_of_lt_of_le (h.lt k hk) hf3.size) who ⟨.slice (some ⟨a, 0, none⟩) m c, es⟩ hr3 (hm3 h0) hf hrow3 (fun e he => (hat0.ents e (by rw [hes]; simp [he])).frT hf hnb) (.inl (by rw [hv]; rfl)) (fun e => h0 (by rw [← hm, show es = [] from e]; rfl)) (fun e he k hk => hat0.inE e (by rw [hes]; simp [he]) k hk) (fun k hk => hat0.inV k (by rw [hv]; exact hk)), fun x => ?_⟩
    rw [ofM_put, hb1]
    by_cases e : x = who
    · rw [if_pos e, if_pos e]
    · rw [if_neg e, if_neg e]; exact hL x

set_option maxRecDepth 100000 in
set_option maxHeartbeats 4000000 in
theorem uback_any {lb rb : Nat} {most : Int} {L : List (Int × Ent)} {M : List MTab} {S Sr : Nat → Prop} (who : Int) (w : World) (h : LogAt w lb most L S) (hr : Rws w rb M Sr) (hd : ∀ k, S k → ¬ Sr k) (hg : Good M) (hw : (Lit.int .i64 who).wf = true) (hl : L.length ≤ 100000) :
    Calls Tryz.prog 31 #[lptr lb, .int .i64 who, rptr rb] w (UBackRet lb most L S rb M Sr who w) := by
  have HL := Lib.hid h
  have HR := Lib.hid hr
  have HG := Lib.hid hg
  have HD := Lib.hid hd
  clear h hr hg hd
  by_cases h0 : ofL L who = []
  · have HE := Lib.hid h0
    go_enter Tryz.func31, Tryz.ntmps31
    go_wp2_with fail
    refine (ulen_any who _ HL.out hw).mono ?_
    rintro e w1 ⟨rfl, rfl⟩
    rw [h0]
    clear h0
    go_wp2_with fail
    go_ret
    exact .inl ⟨HE.out, rfl, Fr.refl _ _⟩
  · obtain ⟨ds, x, hax⟩ := snoc_of h0
    obtain ⟨mb, M0, hG, hLe⟩ := HL.out
    have hat := (hG.at who).1
    have hlo := hLe who
    rw [hax] at hlo
    obtain ⟨es, g, hes⟩ := snoc_of (l := (ofM M0 who).es) (fun e => by rw [e] at hlo; simp at hlo)
    have hgx : g.mod = x := by
      rw [hes, List.map_append] at hlo
      simpa using (List.append_inj_right' hlo rfl)
    have hlen : (ofL L who).length = es.length + 1 := by rw [← hLe, hes]; simp
    have hlim : es.length + 1 ≤ 100000 := by have := ofL_len L who; omega
    have hrow := hat.row
    rw [hes, List.length_append] at hrow
    obtain ⟨va, vc, hv, hvn⟩ : ∃ a c, (ofM M0 who).v = .slice (some ⟨a, 0, none⟩) (es.length + 1) c ∧ es.length + 1 ≤ c := by
      rcases hrow.2 with ⟨_, h2⟩ | ⟨b, c, cur, h1, _, _, h4, _⟩
      · simp at h2
      · exact ⟨b, c, by simpa using h1, by simpa using h4⟩
    have hge := hat.ents g (by rw [hes]; simp)
    have qL := look_run hG hw
    rw [hv] at qL hrow
    have q27 := gent_cell (n := es.length + 1) hrow
    have q2 := hG.root.cell 2
    have HGX := Lib.hid hgx
    have HGG := Lib.hid hG
    have HLE := Lib.hid hLe
    have HES := Lib.hid hes
    have HV := Lib.hid hv
    have HAX := Lib.hid hax
    have HGE := Lib.hid hge
    have HLN := Lib.hid hlen
    have hl1 : 1 ≤ L.length := by have := ofL_len L who; omega
    obtain ⟨m, hm⟩ : ∃ m, es.length = m := ⟨_, rfl⟩
    have HM := Lib.hid hm
    rw [hm] at q27 qL hlim hvn
    clear h0 hax hG hLe hat hlo hes hgx hlen hrow hv hge hm
    have hi0 : (0 : Int) ≤ (m : Int) := by omega
    rcases hq : g.was with _ | xs
    all_goals
      have HQ := Lib.hid hq
      have HFV : Hid (g.fv = match g.was with | none => .func (.func 119) #[] #[.pointer (some ⟨g.tb, 0, none⟩), .pointer (some ⟨g.kb, 0, none⟩)] | some _ => .func (.func 120) #[] #[.pointer (some ⟨g.tb, 0, none⟩), .pointer (some ⟨g.kb, 0, none⟩), .pointer (some ⟨g.cb, 0, none⟩)]) := rfl
      rw [HFV.out, hq] at q27
      clear hq
      go_enter Tryz.func31, Tryz.ntmps31
      go_wp2_with fail
      refine (ulen_any who _ HL.out hw).mono ?_
      rintro e w1 ⟨rfl, rfl⟩
      rw [HLN.out, HM.out]
      go_wp2_with fail
      first
        | refine (back1_any g _ HR.out HG.out HGE.out HQ.out).mono ?_
        | refine (back2_any g xs _ HR.out HG.out HGE.out HQ.out).mono ?_
      rintro e w2 ⟨rfl, Sr', hr2, hs2, hf2⟩
      have hG2 : LogG w2 lb mb most (L.length : Nat) M0 S := HGG.out.fr hf2 HD.out
      have HG2 := Lib.hid hG2
      have q2 := hG2.root.cell 2
      have qL := look_run hG2 hw
      rw [HV.out, HM.out] at qL
      have k2 := KeptN.cell q2
      have kl : ∀ w', KeptN w2 w' → (Instr.lookup 101 (.map (some mb)) (.int .i64 who) false).run Tryz.prog w' = .ok (.slice (some ⟨va, 0, none⟩) (m + 1) vc) w' := fun w' hf => by
        rw [look_run (hG2.fr0 hf) hw, HV.out, HM.out]
      have HR2 : Hid (∃ Sr', Rws w2 rb (undoE M x) Sr' ∧ ∀ k, Sr' k → Sr k ∨ w.heap.size ≤ k) := ⟨Sr', by rw [← HGX.out]; exact hr2, hs2⟩
      have HF2 := Lib.hid hf2
      have HMl : Hid (M0.length < maxLen) := by
        have : M0.length < maxLen := by
          have := hG2.few HLE.out
          unfold maxLen; omega
        exact this
      have HKY := Lib.hid (keyW hw)
      clear hG2 hr2 hs2 hf2 q27
      go_wp2_with fail
      refine wp_region_sink 14 (KeptN w2) (by kernel_rfl) ?_
      have hSa : KeptN w2 w2.drew := KeptN.start _
      refine wpAnyS_take (i := 0) (v := ?_) rfl (by kernel_rfl) (fun _ _ _ h => h) (by rfl) hSa ?_ ?_
      rotate_left
      · intro w' hS'
        (try dsimp only at hS')
        go_simp <;> with_reducible rfl
      try simp only [Act.put, List.setIfInBounds_toArray, List.set_cons_zero, List.set_cons_succ]
      refine wpAnyS_take (i := 1) (v := ?_) rfl (by kernel_rfl) (fun _ _ _ h => h) (by rfl) hSa ?_ ?_
      rotate_left
      · intro w' hS'
        (try dsimp only at hS')
        go_simp <;> with_reducible rfl
      try simp only [Act.put, List.setIfInBounds_toArray, List.set_cons_zero, List.set_cons_succ]
      refine wpAnyS_take (i := 2) (v := ?_) rfl (by kernel_rfl) (fun _ _ _ h => h) (by rfl) hSa ?_ ?_
      rotate_left
      · intro w' hS'
        (try dsimp only at hS')
        go_simp <;> with_reducible rfl
      try simp only [Act.put, List.setIfInBounds_toArray, List.set_cons_zero, List.set_cons_succ]
      refine wpAnyS_take (i := 3) (v := ?_) rfl (by kernel_rfl) (fun _ _ _ h => h) (by rfl) hSa ?_ ?_
      rotate_left
      · intro w' hS'
        have ck2 := k2 _ hS'
        go_simp <;> with_reducible rfl
      try simp only [Act.put, List.setIfInBounds_toArray, List.set_cons_zero, List.set_cons_succ]
      refine wpAnyS_take (i := 4) (v := ?_) rfl (by kernel_rfl) (fun _ _ _ h => h) (by rfl) hSa ?_ ?_
      rotate_left
      · intro w' hS'
        (try dsimp only at hS')
        go_simp <;> with_reducible rfl
      try simp only [Act.put, List.setIfInBounds_toArray, List.set_cons_zero, List.set_cons_succ]
      refine wpAnyS_take (i := 5) (v := ?_) rfl (by kernel_rfl) (fun _ _ _ h => h) (by rfl) hSa ?_ ?_
      rotate_left
      · intro w' hS'
        (try dsimp only at hS')
        go_simp <;> with_reducible rfl
      try simp only [Act.put, List.setIfInBounds_toArray, List.set_cons_zero, List.set_cons_succ]
      refine wpAnyS_take (i := 6) (v := ?_) rfl (by kernel_rfl) (fun _ _ _ h => h) (by rfl) hSa ?_ ?_
      rotate_left
      · intro w' hS'
        (try dsimp only at hS')
        go_simp <;> with_reducible rfl
      try simp only [Act.put, List.setIfInBounds_toArray, List.set_cons_zero, List.set_cons_succ]
      refine wpAnyS_take (i := 7) (v := ?_) rfl (by kernel_rfl) (fun _ _ _ h => h) (by rfl) hSa ?_ ?_
      rotate_left
      · intro w' hS'
        (try dsimp only at hS')
        go_simp <;> with_reducible rfl
      try simp only [Act.put, List.setIfInBounds_toArray, List.set_cons_zero, List.set_cons_succ]
      refine wpAnyS_take (i := 8) (v := ?_) rfl (by kernel_rfl) (fun _ _ _ h => h) (by rfl) hSa ?_ ?_
      rotate_left
      · intro w' hS'
        have ck2 := k2 _ hS'
        go_simp <;> with_reducible rfl
      try simp only [Act.put, List.setIfInBounds_toArray, List.set_cons_zero, List.set_cons_succ]
      refine wpAnyS_take (i := 9) (v := ?_) rfl (by kernel_rfl) (fun _ _ _ h => h) (by rfl) hSa ?_ ?_
      rotate_left
      · intro w' hS'
        (try dsimp only at hS')
        go_simp <;> with_reducible rfl
      try simp only [Act.put, List.setIfInBounds_toArray, List.set_cons_zero, List.set_cons_succ]
      refine wpAnyS_take (i := 10) (v := ?_) rfl (by kernel_rfl) (fun _ _ _ h => h) (by rfl) hSa ?_ ?_
      rotate_left
      · intro w' hS'
        have ckl := kl _ hS'
        go_simp <;> with_reducible rfl
      try simp only [Act.put, List.setIfInBounds_toArray, List.set_cons_zero, List.set_cons_succ]
      have hwm : IntKind.i64.wrap (m : Int) = m := by rw [IntKind.wrap_i64]; omega
      have hmv : (m : Int) ≤ (vc : Int) := by omega
      refine wpAnyS_take (i := 11) (v := ?_) rfl (by kernel_rfl) (fun _ _ _ h => h) (by rfl) hSa ?_ ?_
      rotate_left
      · intro w' hS'
        (try dsimp only at hS')
        go_simp <;> with_reducible rfl
      try simp only [Act.put, List.setIfInBounds_toArray, List.set_cons_zero, List.set_cons_succ]
      refine wpAnyS_take (i := 12) (v := ?_) rfl (by kernel_rfl) (fun _ _ _ h => h) (by rfl) hSa ?_ ?_
      rotate_left
      · intro w' hS'
        (try dsimp only at hS')
        go_simp <;> with_reducible rfl
      try simp only [Act.put, List.setIfInBounds_toArray, List.set_cons_zero, List.set_cons_succ]
      refine wpAnyS_take (i := 13) (v := ?_) rfl (by kernel_rfl) (fun _ _ _ h => h) (by rfl) hSa ?_ ?_
      rotate_left
      · intro w' hS'
        (try dsimp only at hS')
        go_simp <;> with_reducible rfl
      try simp only [Act.put, List.setIfInBounds_toArray, List.set_cons_zero, List.set_cons_succ]
      clear hwm hmv
      refine wpAnyS_last (i := 14) rfl (by kernel_rfl) (by decide) (by kernel_rfl) (by rfl) fun K hK => ?_
      refine wp_map_set _ _ _ _ _ (by rfl) 2 138 Tryz.keyI64 Tryz.underlying101 intKey mb M0 HMl.out (by rfl) (HG2.out.map.fr0 hSa) _ who (by rfl) HKY.out (⟨.slice (some ⟨va, 0, none⟩) m vc, es⟩ : GSl) (by rfl) ?_
      intro w3 hm3 hf3
      refine hK.out _ _ ?_
      clear hK K
      have hb3 : Bk w3 lb 103 [.int .i64 most, .int .i64 (L.length : Nat), .map (some mb)] := (HG2.out.root.fr hSa fun h => h).fr hf3 (fun e => by
        subst e
        obtain ⟨D, ⟨es, ck, hm, _⟩, _⟩ := HG2.out.map
        have := HG2.out.root
        unfold Bk at this
        rw [this] at hm; cases hm)
      have hf23 : Fr w2 w3 (fun j => j = lb ∨ j = mb) := (Fr.of_nil hSa).transS (hf3.mono fun _ _ h => .inr h)
      have HM3 := Lib.hid hm3
      have HB3 := Lib.hid hb3
      have HF3 := Lib.hid hf23
      have q1 := hb3.cell 1
      have y1 := hb3.free 1
      clear hSa k2 kl q2 qL hm3 hf3 hb3 hf23
      have hb4 := HB3.out.set 1 (.int .i64 ((L.length : Int) - 1))
      have q5 := hb4.cell 2
      have HB4 := Lib.hid hb4
      have HF4 : Hid (Fr w2 (w3.setCell ⟨lb, 1, none⟩ (.int .i64 ((L.length : Int) - 1))) (fun j => j = lb ∨ j = mb)) := HF3.out.setCell (p := ⟨lb, 1, none⟩) (fun _ => .inl rfl) _
      have HM4 : Hid (MapAt Tryz.prog 2 ikey GSl.v (w3.setCell ⟨lb, 1, none⟩ (.int .i64 ((L.length : Int) - 1))) mb (delM M0 who ++ [(who, ⟨.slice (some ⟨va, 0, none⟩) m vc, es⟩)])) := HM3.out.fr (Fr.store w3 lb 1 _) (fun e => by
        subst e
        obtain ⟨D, ⟨es, ck, hm, _⟩, _⟩ := HM3.out
        have := HB3.out
        unfold Bk at this
        rw [this] at hm; cases hm)
      have hll : (1 : Int) ≤ (L.length : Int) := by omega
      clear hb4
      have hSin : ∀ k, (k = lb ∨ k = mb) → S k := fun k e => by (rcases e with rfl | rfl; exact HGG.out.inL; exact HGG.out.inM)
      by_cases hm0 : m = 0
      · subst hm0
        go_wp2_with (at_delete; refine wpList_map_del _ rfl _ _ 101 2 rfl 138 Tryz.keyI64 Tryz.underlying101 intKey mb _ rfl HM4.out _ who rfl HKY.out ?_; intro w5 hm5 hf5)
        have hb5 := HB4.out.fr hf5 (fun e => by
          subst e
          obtain ⟨D, ⟨es, ck, hm, _⟩, _⟩ := HM4.out
          have := HB4.out
          unfold Bk at this
          rw [this] at hm; cases hm)
        have HF5 : Hid (Fr w2 w5 (fun j => j = lb ∨ j = mb)) := HF4.out.transS (hf5.mono fun _ _ h => .inr h)
        have HB5 := Lib.hid hb5
        have HM5 := Lib.hid hm5
        clear hm5 hf5 hb5
        go_wp2_with fail
        go_ret
        refine .inr ⟨ds, x, HAX.out, rfl, back_done HG2.out HLE.out HES.out HV.out HM.out (fun h => absurd rfl h) (fun _ => by have := HM5.out; rw [delM_put] at this; exact this) HF5.out HB5.out rfl, HR2.out.imp fun Sr' h => ⟨h.1.fr HF5.out fun k hk e => ?_, h.2⟩, (HF2.out.mono fun _ _ h => .inr h).trans HF5.out fun k _ e => .inl (hSin k e)⟩
        have h1 := HD.out k (hSin k e)
        have h2 := HG2.out.lt k (hSin k e)
        have h3 := HGG.out.lt k (hSin k e)
        rcases h.2 k hk with h4 | h4
        · exact h1 h4
        · omega
      · have hm1 : ((m : Int) + 1 == 1) = false := by rw [beq_eq_false_iff_ne]; omega
        go_wp2_with fail
        go_ret
        refine .inr ⟨ds, x, HAX.out, rfl, back_done HG2.out HLE.out HES.out HV.out HM.out (fun _ => HM4.out) (fun h => absurd h hm0) HF4.out HB4.out rfl, HR2.out.imp fun Sr' h => ⟨h.1.fr HF4.out fun k hk e => ?_, h.2⟩, (HF2.out.mono fun _ _ h => .inr h).trans HF4.out fun k _ e => .inl (hSin k e)⟩
        have h1 := HD.out k (hSin k e)
        have h2 := HG2.out.lt k (hSin k e)
        have h3 := HGG.out.lt k (hSin k e)
        rcases h.2 k hk with h4 | h4
        · exact h1 h4
        · omega
end Go.Proofs.YtgpekgnhbccnoaaGreat
