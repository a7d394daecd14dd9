/-
 The log of undoing: walks of New, Len, Used, backs and of what it hands back.
 The log of undoing: walk of Note.
 Instructions, and what they do, in plain lists.
 No condition.
 Right instructions, in plain lists.
 No condition.
-/
import Derived.Test.YtgpekgnhbccnoaaGreatPkY14
import Derived.Test.YtgpekgnhbccnoaaGreatPkY15
import Derived.Test.YtgpekgnhbccnoaaGreatPkY1
import Derived.Deep.QuietTactic
import Derived.BigQuiet
namespace Go.Proofs.YtgpekgnhbccnoaaGreat
open Go Go.RowKit Go.Maps

theorem keyW {who : Int} (h : (Lit.int .i64 who).wf = true) : keyOf Tryz.prog 2 (.int .i64 who) = some (ikey who) := keyOf_int_mk Tryz.underlying2 h
theorem zeroEs (w : World) : (zeroValue 138).run Tryz.prog w = .ok (GSl.none.v) w := Tryz.zeroValue138 w
set_option maxRecDepth 100000 in
/-- The look-up's run. -/
theorem look_map {w : World} {mb : Nat} {M : List (Int × GSl)} (h : MapAt Tryz.prog 2 ikey GSl.v w mb M) {who : Int} (hw : (Lit.int .i64 who).wf = true) :
  (Instr.lookup 101 (.map (some mb)) (.int .i64 who) false).run Tryz.prog w = .ok (ofM M who).v w := by
 obtain ⟨D, h1, h2⟩ := h
 obtain ⟨v, ps, hrun, hv⟩ := h1.lookup Tryz.keyI64 Tryz.underlying101 (zeroEs w) (zd := .held GSl.none.v) (zp := []) rfl (keyW hw)
 have hv2 := heldR_inv hv
 rw [h2.at_getV (z := GSl.none) intKey] at hv2
 injection hv2 with hv2
 rw [hrun, ← hv2]
 rfl
theorem look_run {w : World} {lb mb : Nat} {most used : Int} {M : List (Int × GSl)} {S : Nat → Prop} (h : LogG w lb mb most used M S) {who : Int} (hw : (Lit.int .i64 who).wf = true) :
  (Instr.lookup 101 (.map (some mb)) (.int .i64 who) false).run Tryz.prog w = .ok (ofM M who).v w := look_map h.map hw
/-- The blocks of who's row. -/
def RowOf (M : List (Int × GSl)) (who : Int) (k : Nat) : Prop := (ofM M who).v.ownBlock = some k
theorem LogG.rowL {w : World} {lb mb : Nat} {most used : Int} {M : List (Int × GSl)} {S : Nat → Prop} (h : LogG w lb mb most used M S) (who : Int) : ¬ RowOf M who lb := fun hk => by
 obtain ⟨c0, hc0⟩ := row_ty (h.at who).1.row hk
 have := h.root
 unfold Bk at this
 rw [this] at hc0; simp at hc0
theorem LogG.rowM {w : World} {lb mb : Nat} {most used : Int} {M : List (Int × GSl)} {S : Nat → Prop} (h : LogG w lb mb most used M S) (who : Int) : ¬ RowOf M who mb := fun hk => by
 obtain ⟨c0, hc0⟩ := row_ty (h.at who).1.row hk
 obtain ⟨D, ⟨es, ck, hm, _⟩, _⟩ := h.map
 rw [hm] at hc0; cases hc0
theorem ofM_len {M : List (Int × GSl)} {L : List (Int × Ent)} (h : ∀ who, (ofM M who).es.map GEnt.mod = ofL L who) (who : Int) : (ofM M who).es.length = (ofL L who).length := by rw [← h, List.length_map]
theorem ofL_len (L : List (Int × Ent)) (who : Int) : (ofL L who).length ≤ L.length := by
 unfold ofL
 rw [List.length_map]
 exact List.length_filter_le _ _

def UNewRet (most : Int) (w : World) (e : Ending) (w' : World) : Prop := ∃ lb S, e = .returned (lptr lb) ∧ LogAt w' lb (max 0 most) [] S ∧ (∀ k, S k → w.heap.size ≤ k) ∧ Fr w w' Nil
theorem new_log (w : World) (m : Int) : LogAt ((w.alloc (.map #[] 0)).alloc (.cells #[.int .i64 m, .int .i64 0, .map (some w.heap.size)] 103)) (w.heap.size + 1) m [] (fun k => k = w.heap.size ∨ k = w.heap.size + 1) := by
 refine ⟨w.heap.size, [], ⟨?_, (MapAt.made w Tryz.prog 2 ikey GSl.v).fr0 ((Fr.refl _ Nil).alloc _), (fun p hp => by cases hp), (fun p hp => by cases hp), (fun p hp => by cases hp), (fun p hp => by cases hp), .inr rfl, .inl rfl, (fun p hp => by cases hp), (fun p hp => by cases hp), fun k hk => ?_⟩, fun who => rfl⟩
 ·have := Bk.new (w.alloc (.map #[] 0)) 103 #[.int .i64 m, .int .i64 0, .map (some w.heap.size)]
  simpa using this
 ·simp only [World.size_alloc]
  omega
set_option maxRecDepth 100000 in
set_option maxHeartbeats 1000000 in
theorem unew_any (most : Int) (w : World) :
  Calls Tryz.prog 12 #[.int .i64 most] w (UNewRet most w) := by
 have hmm := @run_makeMap Tryz.prog
 go_enter Tryz.func12, Tryz.ntmps12
 go_wp2_with fail
 ·go_ret
  exact ⟨_, _, rfl, by rw [show max 0 most = most by omega]; exact new_log w most, fun k hk => by (rcases hk with h | h <;> omega), ((Fr.refl w Nil).alloc _).alloc _⟩
 ·go_ret
  exact ⟨_, _, rfl, by rw [show max 0 most = 0 by omega]; exact new_log w 0, fun k hk => by (rcases hk with h | h <;> omega), ((Fr.refl w Nil).alloc _).alloc _⟩

set_option maxRecDepth 100000 in
set_option maxHeartbeats 1000000 in
theorem ulen_any {lb : Nat} {most : Int} {L : List (Int × Ent)} {S : Nat → Prop} (who : Int) (w : World) (h : LogAt w lb most L S) (hw : (Lit.int .i64 who).wf = true) :
  Calls Tryz.prog 28 #[lptr lb, .int .i64 who] w fun e w' => e = .returned (.int .i64 (ofL L who).length) ∧ w = w' := by
 obtain ⟨mb, M, hg, hL⟩ := h
 have hr := look_run hg hw
 have q2 := hg.root.cell 2
 have hrow := (hg.at who).1.row
 rw [← ofM_len hL who]
 obtain ⟨a, cap, hv⟩ := (SlAt.of_own hrow).1.shape
 rw [hv] at hr
 generalize (ofM M who).es.length = n at *
 clear hg hL hw hrow hv
 go_enter Tryz.func28, Tryz.ntmps28
 go_wp2_with fail
 go_ret
 exact ⟨rfl, rfl⟩
set_option maxRecDepth 100000 in
set_option maxHeartbeats 1000000 in
theorem uused_any {lb : Nat} {most : Int} {L : List (Int × Ent)} {S : Nat → Prop} (w : World) (h : LogAt w lb most L S) :
  Calls Tryz.prog 24 #[lptr lb] w fun e w' => e = .returned (.int .i64 L.length) ∧ w = w' := by
 obtain ⟨mb, M, hg, hL⟩ := h
 have q1 := hg.root.cell 1
 clear hg hL
 go_enter Tryz.func24, Tryz.ntmps24
 go_wp2_with fail
 go_ret
 exact ⟨rfl, rfl⟩

/-- What there is of a key. -/
def entOf (M : List MTab) (t k : Int) : Ent := (t, k, mget (mtab M t) k)
def BackRet (M : List MTab) (t k : Int) (w : World) (e : Ending) (w' : World) : Prop :=
 ∃ g : GEnt, e = .returned g.fv ∧ g.mod = entOf M t k ∧ EntOk w' g ∧ (∀ j, g.has j → w.heap.size ≤ j) ∧ Fr w w' Nil
theorem mget_len {M : List MTab} (hg : Good M) {t k : Int} {xs : List Int} (h : mget (mtab M t) k = some xs) : xs.length ≤ 1000000 := by
 have hw := (hg.at t).width
 have hl := (hg.at t).le
 unfold mget at h
 rw [Option.map_eq_some_iff] at h
 obtain ⟨r, hr, rfl⟩ := h
 have := hw r (List.mem_of_find?_eq_some hr)
 omega
set_option maxRecDepth 100000 in
set_option maxHeartbeats 1000000 in
theorem backs_any {rb : Nat} {M : List MTab} {S : Nat → Prop} (t k : Int) (w : World) (h : Rws w rb M S) (hg : Good M) :
  Calls Tryz.prog 93 #[rptr rb, .int .i64 t, .int .i64 k] w (BackRet M t k w) := by
 have H := Lib.hid h
 have HG := Lib.hid hg
 have hf0 : Fr w ((w.alloc (.cells #[.int .i64 t] 3)).alloc (.cells #[.int .i64 k] 2)) Nil := ((Fr.refl w Nil).alloc _).alloc _
 have hb1 := (Bk.new w 3 #[.int .i64 t]).alloc (.cells #[.int .i64 k] 2)
 have hb2 := Bk.new (w.alloc (.cells #[.int .i64 t] 3)) 2 #[.int .i64 k]
 simp only [World.size_alloc] at hb2
 have HF0 := Lib.hid hf0
 have HB1 := Lib.hid hb1
 have HB2 := Lib.hid hb2
 clear h hg hf0 hb1 hb2
 go_enter Tryz.func93, Tryz.ntmps93
 go_wp2_with fail
 refine (api_get t k (H.out.fr0 HF0.out) HG.out).mono ?_
 rintro e w1 (⟨xs, hm, a, cap, rfl, hc⟩ | ⟨hm, rfl, hf⟩)
 ·have HM := Lib.hid hm
  have HC := Lib.hid hc
  clear hm hc
  go_wp2_with fail
  go_ret
  have hfa : Fr w1 (w1.alloc (.cells #[.slice a xs.length cap] 24)) Nil := (Fr.refl w1 Nil).alloc _
  refine ⟨⟨t, k, some xs, w.heap.size, w.heap.size + 1, w1.heap.size, .slice a xs.length cap⟩, rfl, ?_, ⟨(HB1.out.fr HC.out.2.2 fun h => h).alloc _, (HB2.out.fr HC.out.2.2 fun h => h).alloc _, fun ys hy => ?_⟩, fun j hj => ?_, (HF0.out.trans0 HC.out.2.2).alloc _⟩
  ·show (t, k, some xs) = entOf M t k
   unfold entOf; rw [HM.out]
  ·cases hy
   exact ⟨Bk.new w1 _ _, HC.out.1.fr hfa fun _ _ h => h, mget_len HG.out HM.out⟩
  ·have hs := HC.out.2.2.size
   simp only [World.size_alloc] at hs
   rcases hj with h | h | ⟨_, h | h⟩
   ·show w.heap.size ≤ j; have h : j = w.heap.size := h; omega
   ·have h : j = w.heap.size + 1 := h; omega
   ·have h : j = w1.heap.size := h; omega
   ·have := HC.out.2.1 j h
    simp only [World.size_alloc] at this
    omega
 ·have HM := Lib.hid hm
  have HF := Lib.hid hf
  clear hm hf
  go_wp2_with fail
  go_ret
  refine ⟨⟨t, k, none, w.heap.size, w.heap.size + 1, 0, .slice none 0 0⟩, rfl, ?_, ⟨(HB1.out.fr HF.out fun h => h).alloc _, (HB2.out.fr HF.out fun h => h).alloc _, fun ys hy => by cases hy⟩, fun j hj => ?_, (HF0.out.trans0 HF.out).alloc _⟩
  ·show (t, k, none) = entOf M t k
   unfold entOf; rw [HM.out]
  ·rcases hj with h | h | ⟨h, _⟩
   ·have h : j = w.heap.size := h; omega
   ·have h : j = w.heap.size + 1 := h; omega
   ·exact absurd rfl h

end Go.Proofs.YtgpekgnhbccnoaaGreat
namespace Go.Proofs.YtgpekgnhbccnoaaGreat
open Go Go.RowKit Go.Maps

def noteE (M : List MTab) (most : Int) (L : List (Int × Ent)) (t : Int) : Int := if (mtab M t).1 = 0 then 2 else if most ≤ (L.length : Int) then 3 else 0
def noteL (M : List MTab) (most : Int) (L : List (Int × Ent)) (who t k : Int) : List (Int × Ent) := if noteE M most L t = 0 then L ++ [(who, entOf M t k)] else L
theorem ofL_snoc (L : List (Int × Ent)) (who x : Int) (e : Ent) : ofL (L ++ [(who, e)]) x = if x = who then ofL L x ++ [e] else ofL L x := by
 unfold ofL
 rw [List.filter_append, List.map_append]
 by_cases h : x = who
 ·subst h
  rw [if_pos rfl, List.filter_cons_of_pos (by simp)]
  simp
 ·rw [if_neg h, List.filter_cons_of_neg (by simpa using fun e => h e.symm)]
  simp
theorem nodup_len : ∀ {l m : List Int}, l.Nodup → (∀ x ∈ l, x ∈ m) → l.length ≤ m.length
 | [], m, _, _ => by simp
 | x :: l, m, h, hs => by
  obtain ⟨h1, h2⟩ := List.nodup_cons.1 h
  have hx := hs x (by simp)
  have := nodup_len (l := l) (m := m.erase x) h2 fun y hy => (List.mem_erase_of_ne (by intro e; subst e; exact h1 hy)).2 (hs y (by simp [hy]))
  rw [List.length_erase_of_mem hx] at this
  have := List.length_pos_of_mem hx
  simp only [List.length_cons]; omega
theorem LogG.few {w : World} {lb mb : Nat} {most used : Int} {L : List (Int × Ent)} {M : List (Int × GSl)} {S : Nat → Prop} (h : LogG w lb mb most used M S) (hL : ∀ x, (ofM M x).es.map GEnt.mod = ofL L x) : M.length ≤ L.length := by
 have := nodup_len (l := M.map Prod.fst) (m := L.map Prod.fst) h.map.nodup fun x hx => by
  have h1 := (h.at x).2
  rw [List.contains_iff_mem.2 hx] at h1
  have h2 := hL x
  cases hc : (ofM M x).es with
  | nil => rw [hc] at h1; cases h1
  | cons e es =>
   rw [hc] at h2
   have h3 : e.mod ∈ ofL L x := by rw [← h2]; simp
   unfold ofL at h3
   obtain ⟨p, hp, _⟩ := List.mem_map.1 h3
   obtain ⟨hp1, hp2⟩ := List.mem_filter.1 hp
   rw [beq_iff_eq] at hp2
   exact List.mem_map.2 ⟨p, hp1, hp2⟩
 simpa using this
theorem LogUpd.same {w w' : World} {lb : Nat} {most : Int} {L : List (Int × Ent)} {S : Nat → Prop} (h : LogAt w lb most L S) (hf : Fr w w' Nil) : LogUpd w lb most L S w' := by
 obtain ⟨mb, M, h1, h2⟩ := h
 exact ⟨⟨mb, M, (h1.fr0 hf).more (fun k hk => .inl hk) (fun k hk => hk.elim (fun h => Nat.lt_of_lt_of_le (h1.lt k h) hf.size) (·.2)), h2⟩, hf.of_nil⟩
theorem note_done {w w3 w5 w6 w7 : World} {lb mb : Nat} {most : Int} {L : List (Int × Ent)} {M : List (Int × GSl)} {S : Nat → Prop} {who : Int} {g : GEnt} {a6 : Option Addr} {c6 : Nat} (h : LogG w lb mb most (L.length : Nat) M S) (hL : ∀ x, (ofM M x).es.map GEnt.mod = ofL L x)
  (hf3 : Fr w w3 Nil) (hge : EntOk w3 g) (hgn : ∀ j, g.has j → w.heap.size ≤ j) (hf5 : Fr w3 w5 Nil)
  (ho : w6.ownsRow 0 152 3 (.slice a6 ((ofM M who).es.length + 1) c6) ((ofM M who).es.length + 1) ((ofM M who).es.flatMap GEnt.vals ++ g.vals)) (hg6 : w5.grownBy w6 (ofM M who).v.ownBlock)
  (hat : (Value.slice a6 ((ofM M who).es.length + 1) c6).ownBlock = (ofM M who).v.ownBlock ∨ (Value.slice a6 ((ofM M who).es.length + 1) c6).ownBlock = some w5.heap.size)
  (hm7 : MapAt Tryz.prog 2 ikey GSl.v w7 mb (delM M who ++ [(who, ⟨.slice a6 ((ofM M who).es.length + 1) c6, (ofM M who).es ++ [g]⟩)])) (hf7 : Fr w6 w7 (fun j => j = mb)) :
  LogUpd w lb most (L ++ [(who, g.mod)]) S (w7.setCell ⟨lb, 1, none⟩ (.int .i64 ((L.length : Int) + 1))) := by
 obtain ⟨hnb, hts, hto⟩ := h.turns (who := who)
 have hat0 := (h.at who).1
 have hw5 := hf3.trans0 hf5
 have s5 := hw5.size
 have hf56 : Fr w5 w6 (Turns lb mb M who) := (Fr.refl w5 _).grown hg6 fun k hk _ => .inr (.inr hk)
 have hf57 : Fr w5 w7 (Turns lb mb M who) := hf56.transS (hf7.mono fun k _ hk => .inr (.inl hk))
 have hf58 : Fr w5 (w7.setCell ⟨lb, 1, none⟩ (.int .i64 ((L.length : Int) + 1))) (Turns lb mb M who) := hf57.setCell (p := ⟨lb, 1, none⟩) (fun _ => .inl rfl) _
 have hfw : Fr w (w7.setCell ⟨lb, 1, none⟩ (.int .i64 ((L.length : Int) + 1))) (Turns lb mb M who) := (hw5.of_nil).transS hf58
 have hlt : ∀ k, Turns lb mb M who k → k < w.heap.size := fun k hk => h.lt k (hts k hk)
 have hmlt := h.map.lt
 -- the row's block is not the log's, nor the map's
 have hvne : ∀ k, (Value.slice a6 ((ofM M who).es.length + 1) c6).ownBlock = some k → k ≠ lb ∧ k ≠ mb := fun k hk => by
  obtain ⟨c1, hc1⟩ := row_ty ho hk
  rcases hat with hat | hat
  ·have hk0 := hat.symm.trans hk
   obtain ⟨c0, hc0⟩ := row_ty hat0.row hk0
   refine ⟨fun e => ?_, fun e => ?_⟩
   ·subst e
    have := h.root
    unfold Bk at this
    rw [this] at hc0; simp at hc0
   ·subst e
    obtain ⟨D, ⟨es, ck, hm, _⟩, _⟩ := h.map
    rw [hm] at hc0; cases hc0
  ·rw [hk] at hat; cases hat
   have := h.lt lb h.inL
   exact ⟨by omega, by omega⟩
 have hroot : Bk (w7.setCell ⟨lb, 1, none⟩ (.int .i64 ((L.length : Int) + 1))) lb 103 [.int .i64 most, .int .i64 ((L.length : Int) + 1), .map (some mb)] := by
  have h5 : Bk w5 lb _ _ := h.root.fr hw5 fun h => h
  have h6 : Bk w6 lb _ _ := h5.fr ((Fr.refl w5 (fun k => (ofM M who).v.ownBlock = some k)).grown hg6 fun k hk _ => hk) (fun hk => by
   obtain ⟨c0, hc0⟩ := row_ty hat0.row hk
   have := h.root
   unfold Bk at this
   rw [this] at hc0; simp at hc0)
  have h7 : Bk w7 lb _ _ := h6.fr hf7 (fun e => by
   subst e
   obtain ⟨D, ⟨es, ck, hm, _⟩, _⟩ := h.map
   have := h.root
   unfold Bk at this
   rw [this] at hm; cases hm)
  exact h7.set 1 _
 have hrow : (w7.setCell ⟨lb, 1, none⟩ (.int .i64 ((L.length : Int) + 1))).ownsRow 0 152 3 (.slice a6 ((ofM M who).es.length + 1) c6) ((ofM M who).es ++ [g]).length (((ofM M who).es ++ [g]).flatMap GEnt.vals) := by
  have h7 := hf7.own ho fun k hk e => (hvne k hk).2 e
  have h8 := (Fr.store w7 lb 1 (.int .i64 ((L.length : Int) + 1))).own h7 fun k hk e => (hvne k hk).1 e
  rw [List.length_append, List.flatMap_append]
  simpa using h8
 have hents : ∀ e ∈ (ofM M who).es ++ [g], EntOk (w7.setCell ⟨lb, 1, none⟩ (.int .i64 ((L.length : Int) + 1))) e := fun e he => by
  rcases List.mem_append.1 he with he | he
  ·exact (hat0.ents e he).frT hfw hnb
  ·simp at he; subst he
   refine (hge.fr hf5 fun _ _ h => h).fr hf58 fun k hk ht => ?_
   have := hgn k hk
   have := hlt k ht
   omega
 have hset := h.set (u := (L.length : Int) + 1) (S' := Gr S w (w7.setCell ⟨lb, 1, none⟩ (.int .i64 ((L.length : Int) + 1)))) (fun k hk => .inl hk) (fun k hk => hk.elim (fun h1 => Nat.lt_of_lt_of_le (h.lt k h1) hfw.size) (·.2)) who ⟨.slice a6 ((ofM M who).es.length + 1) c6, (ofM M who).es ++ [g]⟩ hroot (hm7.fr (Fr.store w7 lb 1 _) fun e => by
   subst e
   obtain ⟨D, ⟨es, ck, hm, _⟩, _⟩ := h.map
   have := h.root
   unfold Bk at this
   rw [this] at hm; cases hm) hfw hrow hents (hat.imp id fun hat k hk => by rw [hk] at hat; cases hat; omega) (by simp) (fun e he k hk => by
   rcases List.mem_append.1 he with he | he
   ·exact .inl (hat0.inE e he k hk)
   ·simp at he; subst he
    refine .inr ⟨hgn k hk, ?_⟩
    have := hge.lt k hk
    have := (hf5.of_nil (S := Turns lb mb M who)).transS hf58 |>.size
    omega) (fun k hk => by
   rcases hat with hat | hat
   ·exact .inl (hat0.inV k (hat.symm.trans hk))
   ·refine .inr ⟨by rw [hk] at hat; cases hat; omega, (World.ownsRow.lt hrow k hk).2⟩)
 refine ⟨⟨mb, delM M who ++ [(who, ⟨.slice a6 ((ofM M who).es.length + 1) c6, (ofM M who).es ++ [g]⟩)], ?_, fun x => ?_⟩, hfw.mono fun k _ hk => hts k hk⟩
 ·have e : ((L ++ [(who, g.mod)]).length : Nat) = L.length + 1 := by simp
  rw [e]
  exact hset
 ·rw [ofM_put, ofL_snoc]
  by_cases e : x = who
  ·subst e
   rw [if_pos rfl, if_pos rfl, ← hL x]
   simp
  ·rw [if_neg e, if_neg e]
   exact hL x
theorem MapAt.row {w w5 w6 : World} {lb mb : Nat} {most used : Int} {M : List (Int × GSl)} {S : Nat → Prop} {who : Int} (h : LogG w lb mb most used M S) (hf : Fr w w5 Nil) (hg6 : w5.grownBy w6 (ofM M who).v.ownBlock) : MapAt Tryz.prog 2 ikey GSl.v w6 mb M :=
 (h.map.fr0 hf).fr ((Fr.refl w5 (fun k => (ofM M who).v.ownBlock = some k)).grown hg6 fun k hk _ => hk) fun hk => by
  obtain ⟨c0, hc0⟩ := row_ty (h.at who).1.row hk
  obtain ⟨D, ⟨es, ck, hm, _⟩, _⟩ := h.map
  rw [hm] at hc0; cases hc0
theorem sl_gent (w : World) (e : TypeId) (g : GEnt) : SlAt (w.alloc (.cells g.vals.toArray e)) 3 (.slice (some ⟨w.heap.size, 0, none⟩) 1 1) 1 g.vals :=
 ⟨rfl, .inr ⟨_, 1, rfl, fun j u hu => by
  rw [Addr.add_lit, Nat.zero_add, (Bk.new w e g.vals.toArray).cell j]
  simpa using hu⟩⟩

set_option maxRecDepth 100000 in
set_option maxHeartbeats 4000000 in
theorem unote_any {lb rb : Nat} {most : Int} {L : List (Int × Ent)} {M : List MTab} {S Sr : Nat → Prop} (who t k : Int) (w : World) (h : LogAt w lb most L S) (hr : Rws w rb M Sr) (hg : Good M) (hw : (Lit.int .i64 who).wf = true) (hl : L.length ≤ 100000) :
  Calls Tryz.prog 49 #[lptr lb, .int .i64 who, rptr rb, .int .i64 t, .int .i64 k] w fun e w' => e = .returned (.int .i64 (noteE M most L t)) ∧ LogUpd w lb most (noteL M most L who t k) S w' := by
 have HL := Lib.hid h
 have HR := Lib.hid hr
 have HG := Lib.hid hg
 clear h hr hg
 go_enter Tryz.func49, Tryz.ntmps49
 go_wp2_with fail
 refine (api_cols t HR.out HG.out).mono ?_
 rintro e w1 ⟨rfl, hf1⟩
 have HF1 := Lib.hid hf1
 clear hf1
 by_cases h0 : (mtab M t).1 = 0
 ·have HE : Hid (noteE M most L t = 2) := by
   have : noteE M most L t = 2 := by unfold noteE; rw [if_pos h0]
   exact this
  have HN : Hid (noteL M most L who t k = L) := by
   have : noteL M most L who t k = L := by unfold noteL; rw [HE.out]; rfl
   exact this
  rw [h0]
  clear h0
  go_wp2_with fail
  go_ret
  exact ⟨by rw [HE.out]; rfl, by rw [HN.out]; exact LogUpd.same HL.out HF1.out⟩
 ·have h0' : (((mtab M t).1 : Int) == 0) = false := by rw [beq_eq_false_iff_ne]; omega
  obtain ⟨mb, M0, hG, hLe⟩ := HL.out
  have hG1 := hG.fr0 HF1.out
  have q0 := hG1.root.cell 0
  have q1 := hG1.root.cell 1
  have q2 := hG1.root.cell 2
  have HGG := Lib.hid hG
  have HLE := Lib.hid hLe
  have HE0 : Hid (noteE M most L t = if most ≤ (L.length : Int) then 3 else 0) := by
   have : noteE M most L t = if most ≤ (L.length : Int) then 3 else 0 := by unfold noteE; rw [if_neg h0]
   exact this
  clear h0 hG hLe
  by_cases h1 : most ≤ (L.length : Int)
  ·have HE : Hid (noteE M most L t = 3) := by
    have : noteE M most L t = 3 := by rw [HE0.out, if_pos h1]
    exact this
   have HN : Hid (noteL M most L who t k = L) := by
    have : noteL M most L who t k = L := by unfold noteL; rw [HE.out]; rfl
    exact this
   clear hG1
   go_wp2_with fail
   go_quiet (fail)
   go_wp2_with fail
   go_ret
   exact ⟨by rw [HE.out]; rfl, by rw [HN.out]; exact LogUpd.same HL.out (HF1.out.drewN _)⟩
  ·have HE : Hid (noteE M most L t = 0) := by
    have : noteE M most L t = 0 := by rw [HE0.out, if_neg h1]
    exact this
   have HN : Hid (noteL M most L who t k = L ++ [(who, entOf M t k)]) := by
    have : noteL M most L who t k = L ++ [(who, entOf M t k)] := by unfold noteL; rw [HE.out]; rfl
    exact this
   have hat1 := (hG1.at who).1
   have HROW := Lib.hid hat1.row
   obtain ⟨av, cv, hv⟩ := (SlAt.of_own hat1.row).1.shape
   have hlen : (ofM M0 who).es.length ≤ 100000 := by rw [ofM_len HLE.out]; exact Nat.le_trans (ofL_len L who) hl
   have k2 := KeptR.cell (R := RowOf M0 who) q2 (hG1.rowL who)
   have kl : ∀ w', KeptR (RowOf M0 who) w1 w' → (Instr.lookup 101 (.map (some mb)) (.int .i64 who) false).run Tryz.prog w' = .ok (.slice av (ofM M0 who).es.length cv) w' := fun w' hf => by
    rw [look_map (hG1.map.fr hf (hG1.rowM who)) hw, hv]
   have HV := Lib.hid hv
   have HD : Hid (∀ w3 w5 w6 w7 : World, ∀ (g : GEnt) (a6 : Option Addr) (c6 : Nat), Fr w1 w3 Nil → EntOk w3 g → (∀ j, g.has j → w1.heap.size ≤ j) → Fr w3 w5 Nil → w6.ownsRow 0 152 3 (.slice a6 ((ofM M0 who).es.length + 1) c6) ((ofM M0 who).es.length + 1) ((ofM M0 who).es.flatMap GEnt.vals ++ g.vals) → w5.grownBy w6 (ofM M0 who).v.ownBlock →
     ((Value.slice a6 ((ofM M0 who).es.length + 1) c6).ownBlock = (ofM M0 who).v.ownBlock ∨ (Value.slice a6 ((ofM M0 who).es.length + 1) c6).ownBlock = some w5.heap.size) → MapAt Tryz.prog 2 ikey GSl.v w7 mb (delM M0 who ++ [(who, ⟨.slice a6 ((ofM M0 who).es.length + 1) c6, (ofM M0 who).es ++ [g]⟩)]) → Fr w6 w7 (fun j => j = mb) →
     LogUpd w lb most (L ++ [(who, g.mod)]) S (w7.setCell ⟨lb, 1, none⟩ (.int .i64 ((L.length : Int) + 1)))) := fun w3 w5 w6 w7 g a6 c6 hf3 hge hgn hf5 ho hg6 hat hm7 hf7 =>
    note_done HGG.out HLE.out (HF1.out.trans0 hf3) hge (fun j hj => Nat.le_trans HF1.out.size (hgn j hj)) hf5 ho hg6 hat hm7 hf7
   have HM7 : Hid (∀ w5 w6 : World, Fr w1 w5 Nil → w5.grownBy w6 (ofM M0 who).v.ownBlock → MapAt Tryz.prog 2 ikey GSl.v w6 mb M0) := fun w5 w6 hf hg6 => MapAt.row HGG.out (HF1.out.trans0 hf) hg6
   have HMl : Hid (M0.length < maxLen) := by
    have : M0.length < maxLen := by
     have := hG1.few HLE.out
     unfold maxLen; omega
    exact this
   have HKY := Lib.hid (keyW hw)
   have HQ1 := Lib.hid q1
   have HFZ := Lib.hid (hG1.root.free 1)
   have HLT := Lib.hid hG1.root.lt
   have HNB : Hid (¬ (RowOf M0 who lb ∨ lb = mb)) := fun h => h.elim (hG1.rowL who) fun e => by
    subst e
    obtain ⟨D, ⟨es, ck, hm, _⟩, _⟩ := hG1.map
    have := hG1.root
    unfold Bk at this
    rw [this] at hm; cases hm
   clear hG1
   obtain ⟨RW, hRW⟩ : ∃ RW, RowOf M0 who = RW := ⟨_, rfl⟩
   have HRW : Hid (∀ j, (ofM M0 who).v.ownBlock = some j → RW j) := fun j hj => by rw [← hRW]; exact hj
   rw [hRW] at k2 kl HNB
   clear hRW
   generalize (ofM M0 who).es = es at *
   generalize (ofM M0 who).v = vv at *
   subst hv
   have hh1 : ¬ most ≤ (L.length : Int) := h1
   clear hat1 HV HE0
   go_wp2_with fail
   go_quiet (fail)
   rename_i nq
   clear q0 q1 q2
   go_wp2_with fail
   refine wp_region_sink 20 (KeptR RW w1) (by kernel_rfl) ?_
   have hSa : KeptN w1 (w1.drewN nq).drew := ((Fr.refl w1 Nil).drewN nq).drew
   have hSaw := hSa.weak RW
   refine tk 0 hSaw ?_
   refine tk 1 hSaw ?_
   refine tk 2 hSaw ?_
   try simp only [Act.put, sA, sB, sC]
   refine tk 3 hSaw ?_ (hy := by intro _ w; have ck2 := k2 _ w; go_simp <;> with_reducible rfl)
   try simp only [Act.put, sA, sB, sC]
   refine tk 4 hSaw ?_
   refine tk 5 hSaw ?_
   refine tk 6 hSaw ?_
   refine tk 7 hSaw ?_
   try simp only [Act.put, sA, sB, sC]
   refine tk 8 hSaw ?_ (hy := by intro _ w; have ck2 := k2 _ w; go_simp <;> with_reducible rfl)
   try simp only [Act.put, sA, sB, sC]
   refine tk 9 hSaw ?_
   try simp only [Act.put, sA, sB, sC]
   refine tk 10 hSaw ?_ (hy := by intro _ w; have ckl := kl _ w; go_simp <;> with_reducible rfl)
   try simp only [Act.put, sA, sB, sC]
   refine tk 11 hSaw ?_
   refine tk 12 hSaw ?_
   refine tk 13 hSaw ?_
   refine tk 14 hSaw ?_
   refine tk 15 hSaw ?_
   try simp only [Act.put, sA, sB, sC]
   refine on1 16 fun K hK => ?_
   go_simp
   refine (backs_any t k _ (HR.out.fr0 (HF1.out.trans0 hSa)) HG.out).mono ?_
   rintro e w3 ⟨g, rfl, hgm, hge, hgn, hf3⟩
   have hSb : KeptN w1 w3 := hSa.next hf3
   have hSbw := hSb.weak RW
   obtain ⟨gf, gc, hgv⟩ := g.shape
   have HVS : Hid (g.vals = [.int .i64 t, .int .i64 k, .func gf #[] gc]) := by
    have h1 : g.table = t := congrArg Prod.fst hgm
    have h2 : g.key = k := congrArg (fun p : Ent => p.2.1) hgm
    have : g.vals = [.int .i64 t, .int .i64 k, .func gf #[] gc] := by unfold GEnt.vals; rw [h1, h2, hgv]
    exact this
   rw [hgv]
   refine hK.out _ _ hSbw ?_
   clear hK K hgv
   have HGE := Lib.hid hge
   have HGM := Lib.hid hgm
   have HGN : Hid (∀ j, g.has j → w1.heap.size ≤ j) := fun j hj => Nat.le_trans hSa.fr.size (hgn j hj)
   clear hge hgn hf3 hgm
   try simp only [Act.put, sA, sB, sC]
   refine tk 17 hSbw ?_
   try simp only [Act.put, sA, sB, sC]
   refine on1 18 fun K hK => ?_
   go_simp
   have hSc : KeptN w1 (w3.alloc (.cells #[.int .i64 t, .int .i64 k, .func gf #[] gc] 152)) := hSb.fr.alloc _
   have hf5 : Fr w3 (w3.alloc (.cells #[.int .i64 t, .int .i64 k, .func gf #[] gc] 152)) Nil := (Fr.refl w3 Nil).alloc _
   have hsl := sl_gent w3 152 g
   rw [HVS.out] at hsl
   refine hK.out _ _ (hSc.weak RW) ?_
   clear hK K
   try simp only [Act.put, sA, sB, sC]
   refine on1 19 fun K hK => ?_
   refine wp_app _ _ _ _ (by rfl) sent (.slice av es.length cv) (by rfl) (Fr.own (hSc.fr) HROW.out (fun _ _ h => h)) (.slice (some ⟨w3.heap.size, 0, none⟩) 1 1) (by rfl) hsl (by rw [← HVS.out]; exact g.one) (by omega) ?_
   intro a6 c6 w6 ho6 hg6 hat6
   have hSd : KeptR RW w1 w6 := Fr.grown (hSc.weak RW) hg6 fun j hj _ => HRW.out j hj
   refine hK.out _ _ hSd ?_
   clear hK K
   try simp only [Act.put, sA, sB, sC]
   refine wpAnyS_last (i := 20) rfl (by kernel_rfl) (by decide) (by kernel_rfl) (by rfl) fun K hK => ?_
   refine wp_map_set _ _ _ _ _ (by rfl) 2 138 Tryz.keyI64 Tryz.underlying101 intKey mb M0 HMl.out (by rfl) (HM7.out _ _ hSc hg6) _ who (by rfl) HKY.out (⟨.slice a6 (es.length + 1) c6, es ++ [g]⟩ : GSl) (by rfl) ?_
   intro w7 hm7 hf7
   refine hK.out _ _ ?_
   clear hK K
   have HDD := Lib.hid (HD.out w3 _ w6 w7 g a6 c6 hSb HGE.out HGN.out hf5 (by rw [HVS.out]; exact ho6) hg6 hat6 hm7 hf7)
   rw [HGM.out] at HDD
   have hSe : Fr w1 w7 (fun j => RW j ∨ j = mb) := Fr.transS (Fr.mono hSd fun _ _ h => .inl h) (hf7.mono fun _ _ h => .inr h)
   have q1 := hSe.cell HQ1.out HNB.out
   have q2 := (hSe.frozen (p := ⟨lb, 1, none⟩) HLT.out HNB.out).trans HFZ.out
   clear hSa hSaw hSb hSbw hSc hf5 hsl ho6 hg6 hat6 hSd k2 kl
   go_wp2_with fail
   go_ret
   exact ⟨by rw [HE.out]; rfl, by rw [HN.out]; exact HDD.out⟩
end Go.Proofs.YtgpekgnhbccnoaaGreat
namespace Go.Proofs.YtgpekgnhbccnoaaGreat
open Go Go.RowKit

structure InstrD where
 op : Int
 node : Int
 mode : Int
 tab : Int
 row : Bool
 col : Int
 var : Int
 dst : Int
 eq : Bool
 fro : Int
 upto : Int
 key : List TermD
 vals : List (List TermD)
deriving DecidableEq, Inhabited

def valP (vars : List Int) (l : List TermD) : Int := (evalP vars l).1
structure WantD where
 kind : Int
 tab : Int
 row : Bool
 key : Int
 mode : Int
 touched : Bool
 wrote : Bool
deriving DecidableEq
def WantD.zero : WantD := ⟨0, 0, false, 0, 0, false, false⟩
/-- What the next one is. -/
def nextP (n : InstrD) (vars : List Int) : WantD :=
 if n.op = 1 then ⟨2, n.tab, n.row, if n.row then valP vars n.key else 0, n.mode, false, false⟩
 else if n.op = 2 then ⟨3, n.tab, n.row, if n.row then valP vars n.key else 0, n.mode, false, false⟩
 else if n.op = 3 then ⟨1, n.tab, true, valP vars n.key, 0, true, false⟩
 else if n.op = 4 ∨ n.op = 5 ∨ n.op = 6 then ⟨1, n.tab, true, valP vars n.key, 0, true, true⟩
 else if n.op = 7 then ⟨1, n.tab, false, 0, 0, true, false⟩
 else if n.op = 14 then ⟨5, 0, false, 0, 0, false, false⟩
 else if n.op = 15 then ⟨4, 0, false, 0, 0, false, false⟩
 else if n.op = 16 then ⟨6, 0, false, 0, 0, false, false⟩
 else ⟨1, 0, false, 0, 0, false, false⟩
/-- Does it jump? -/
def leaps (n : InstrD) (vars : List Int) : Bool :=
 (n.eq && !decide (valP vars (n.vals.getD 0 []) = valP vars (n.vals.getD 1 []))) || (!n.eq && decide (valP vars (n.vals.getD 1 []) ≤ valP vars (n.vals.getD 0 [])))
def onP (n : InstrD) (vars : List Int) : List Int × Option Int :=
 if n.op = 10 then (vars, some n.dst)
 else if n.op = 11 then (vars, if leaps n vars then some n.dst else none)
 else if n.op = 12 then (vars.set n.var.toNat n.fro, if n.upto < n.fro then some n.dst else none)
 else if n.op = 13 then if vars.getD n.var.toNat 0 < n.upto then (vars.set n.var.toNat (wrap64 (vars.getD n.var.toNat 0 + 1)), some n.dst) else (vars, none)
 else (vars, none)
def doM (n : InstrD) (vars : List Int) (M : List MTab) : List MTab :=
 if n.op = 4 then (mset M n.tab (valP vars n.key) n.col (valP vars (n.vals.getD 0 []))).1
 else if n.op = 5 then (mput M n.tab (valP vars n.key) (n.vals.map (valP vars))).1
 else if n.op = 6 then (mdel M n.tab (valP vars n.key)).1
 else M
def readP (n : InstrD) (vars : List Int) (M : List MTab) : Int := match mget (mtab M n.tab) (valP vars n.key) with
 | some cols => cols.getD n.col.toNat 0
 | none => 0
def doV (n : InstrD) (vars : List Int) (M : List MTab) : List Int :=
 if n.op = 3 then vars.set n.var.toNat (readP n vars M)
 else if n.op = 7 then vars.set n.var.toNat (msum (mtab M n.tab) n.col)
 else if n.op = 8 then vars.set n.var.toNat (valP vars (n.vals.getD 0 []))
 else vars
def doO (n : InstrD) (vars out : List Int) : List Int := if n.op = 9 then out ++ [valP vars (n.vals.getD 0 [])] else out
/-- Where it is, its variables, what it told; the rows; the log. -/
structure MachD where
 at' : Nat
 vars : List Int
 out : List Int
 M : List MTab
 lg : List (Int × Ent)
def wentP (n : InstrD) (s : MachD) (lg : List (Int × Ent)) : MachD :=
 ⟨match (onP n (doV n s.vars s.M)).2 with | some t => t.toNat | none => s.at' + 1, (onP n (doV n s.vars s.M)).1, doO n s.vars s.out, doM n s.vars s.M, lg⟩
/-- One step: what it wants or did; the error; what is left. -/
def stepM (L : List InstrD) (most who : Int) (s : MachD) : WantD × Int × MachD :=
 let n := L.getD s.at' default
 let w := nextP n s.vars
 if w.kind ≠ 1 then (w, 0, s)
 else if w.wrote = true then
  if noteE s.M most s.lg n.tab = 0 then (w, 0, wentP n s (noteL s.M most s.lg who n.tab w.key)) else (WantD.zero, noteE s.M most s.lg n.tab, s)
 else (w, 0, wentP n s s.lg)

/-- What is asked of an instruction's fields. -/
structure IOk (TB : List Int) (nv size : Nat) (n : InstrD) : Prop where
 lo : 1 ≤ n.op
 hi : n.op ≤ 16
 tab : n.op ≤ 7 → 0 ≤ n.tab ∧ n.tab < TB.length
 col : n.op = 3 ∨ n.op = 4 ∨ n.op = 7 → 0 ≤ n.col ∧ n.col < TB.getD n.tab.toNat 0
 var : n.op = 3 ∨ n.op = 7 ∨ n.op = 8 ∨ n.op = 12 ∨ n.op = 13 → 0 ≤ n.var ∧ n.var < nv
 dst : 10 ≤ n.op ∧ n.op ≤ 13 → 0 ≤ n.dst ∧ n.dst < size
 one : n.op = 4 ∨ n.op = 8 ∨ n.op = 9 → n.vals.length = 1
 two : n.op = 11 → n.vals.length = 2
 many : n.op = 5 → (n.vals.length : Int) = TB.getD n.tab.toNat 0
structure COk (TB : List Int) (nv : Nat) (L : List InstrD) : Prop where
 all : ∀ (i : Nat) (n : InstrD), L[i]? = some n → IOk TB nv L.length n
 last : ∀ (i : Nat) (n : InstrD), L[i]? = some n → (n.op = 16 ↔ i + 1 = L.length)
 ne : 0 < L.length
theorem nextP_kind {n : InstrD} (vars : List Int) (h1 : 1 ≤ n.op) (h2 : n.op ≤ 16) : ((nextP n vars).kind = 1 ↔ 3 ≤ n.op ∧ n.op ≤ 13) := by
 unfold nextP
 repeat' split
 all_goals simp
 all_goals omega
theorem nextP_wrote {n : InstrD} (vars : List Int) : ((nextP n vars).wrote = true ↔ 4 ≤ n.op ∧ n.op ≤ 6) := by
 unfold nextP
 repeat' split
 all_goals simp
 all_goals omega
theorem nextP_key {n : InstrD} (vars : List Int) (h : 4 ≤ n.op ∧ n.op ≤ 6) : (nextP n vars).key = valP vars n.key := by
 unfold nextP
 repeat' split
 all_goals first | rfl | omega
theorem onP_len {n : InstrD} (vars : List Int) : (onP n vars).1.length = vars.length := by
 unfold onP
 repeat' split
 all_goals simp
theorem doV_len {n : InstrD} (vars : List Int) (M : List MTab) : (doV n vars M).length = vars.length := by
 unfold doV
 repeat' split
 all_goals simp
theorem onP_dst {n : InstrD} {vars : List Int} {t : Int} (h : (onP n vars).2 = some t) : t = n.dst ∧ 10 ≤ n.op ∧ n.op ≤ 13 := by
 unfold onP at h
 repeat' split at h
 all_goals first | (simp at h; done) | skip
 all_goals simp at h
 all_goals first | (obtain ⟨_, rfl⟩ := h; exact ⟨rfl, by omega⟩) | (subst h; exact ⟨rfl, by omega⟩)
end Go.Proofs.YtgpekgnhbccnoaaGreat
namespace Go.Proofs.YtgpekgnhbccnoaaGreat
open Go Go.RowKit

def goodP (nv : Nat) (t : List TermD) : Bool := (evalP (List.replicate nv 0) t).2
def Keyed (n : InstrD) : Prop := (3 ≤ n.op ∧ n.op ≤ 6) ∨ (n.op ≤ 2 ∧ n.row = true)
/-- The fields that its kind has not are nothing. -/
structure BareP (n : InstrD) : Prop where
 mode : n.op ≠ 1 → n.mode = 0
 tab : 8 ≤ n.op → n.tab = 0
 row : 3 ≤ n.op → n.row = false
 col : ¬ (n.op = 3 ∨ n.op = 4 ∨ n.op = 7) → n.col = 0
 var : ¬ (n.op = 3 ∨ n.op = 7 ∨ n.op = 8 ∨ n.op = 12 ∨ n.op = 13) → n.var = 0
 dst : ¬ (10 ≤ n.op ∧ n.op ≤ 13) → n.dst = 0
 eq : n.op ≠ 11 → n.eq = false
 fro : n.op ≠ 12 → n.fro = 0
 upto : ¬ (n.op = 12 ∨ n.op = 13) → n.upto = 0
 key : 7 ≤ n.op → n.key = []
 vals : ¬ (n.op = 4 ∨ n.op = 5 ∨ n.op = 8 ∨ n.op = 9 ∨ n.op = 11) → n.vals = []
def wantN (TB : List Int) (n : InstrD) : Int :=
 if n.op = 4 ∨ n.op = 8 ∨ n.op = 9 then 1 else if n.op = 11 then 2 else if n.op = 5 then TB.getD n.tab.toNat 0 else 0
def TabP (TB : List Int) (n : InstrD) : Prop := n.op ≤ 7 → 0 ≤ n.tab ∧ n.tab < TB.length
def ColP (TB : List Int) (n : InstrD) : Prop := n.op = 3 ∨ n.op = 4 ∨ n.op = 7 → 0 ≤ n.col ∧ n.col < TB.getD n.tab.toNat 0
def VarP (nv : Nat) (n : InstrD) : Prop := n.op = 3 ∨ n.op = 7 ∨ n.op = 8 ∨ n.op = 12 ∨ n.op = 13 → 0 ≤ n.var ∧ n.var < nv
def DstP (size : Nat) (n : InstrD) : Prop := 10 ≤ n.op ∧ n.op ≤ 13 → 0 ≤ n.dst ∧ n.dst < size
def ModeP (n : InstrD) : Prop := n.op = 1 → n.mode = 3 ∨ n.mode = 5 ∨ (n.row = false ∧ (n.mode = 1 ∨ n.mode = 2))
def KeyP (nv : Nat) (n : InstrD) : Prop := (Keyed n → goodP nv n.key = true) ∧ (¬ Keyed n → n.key = [])
def ValsP (TB : List Int) (nv : Nat) (n : InstrD) : Prop := (n.vals.length : Int) = wantN TB n ∧ n.vals.all (goodP nv) = true
structure OneP (TB : List Int) (nv size : Nat) (n : InstrD) : Prop where
 op : 1 ≤ n.op ∧ n.op ≤ 16
 bare : BareP n
 tab : TabP TB n
 col : ColP TB n
 var : VarP nv n
 dst : DstP size n
 mode : ModeP n
 key : KeyP nv n
 vals : ValsP TB nv n
theorem OneP.ok {TB : List Int} {nv size : Nat} {n : InstrD} (h : OneP TB nv size n) : IOk TB nv size n where
 lo := h.op.1
 hi := h.op.2
 tab := h.tab
 col := h.col
 var := h.var
 dst := h.dst
 one hq := by have := h.vals.1; unfold wantN at this; rw [if_pos hq] at this; omega
 two hq := by have := h.vals.1; unfold wantN at this; rw [if_neg (by omega), if_pos hq] at this; omega
 many hq := by have := h.vals.1; unfold wantN at this; rw [if_neg (by omega), if_neg (by omega), if_pos hq] at this; exact this
structure RightP (TB : List Int) (nv : Int) (L : List InstrD) : Prop where
 ne : 0 < L.length
 pos : 0 ≤ nv
 one : ∀ (i : Nat) (n : InstrD), L[i]? = some n → OneP TB nv.toNat L.length n ∧ (n.op = 16 ↔ i + 1 = L.length)
 jump : ∀ (k i : Nat) (m n : InstrD), L[k]? = some m → L[i]? = some n → 10 ≤ m.op ∧ m.op ≤ 13 → n.op = 15 → ¬ (k < i ∧ (i : Int) < m.dst) ∧ ¬ (i < k ∧ m.dst ≤ (i : Int))
theorem RightP.ok {TB : List Int} {nv : Int} {L : List InstrD} (h : RightP TB nv L) : COk TB nv.toNat L where
 all i n hn := (h.one i n hn).1.ok
 last i n hn := (h.one i n hn).2
 ne := h.ne
/-- No mark of a piece lies within what a jump passes over: as the program looks. -/
theorem jump_seg {L : List InstrD} {k : Nat} {m : InstrD} (hk : L[k]? = some m) (hm : 10 ≤ m.op ∧ m.op ≤ 13) (h0 : 0 ≤ m.dst ∧ m.dst < L.length) {lo hi : Nat} (hlo : lo = min k m.dst.toNat) (hhi : hi = if (k : Int) < m.dst then max k m.dst.toNat else max k m.dst.toNat + 1) :
  (((L.drop lo).take (hi - lo)).any (fun n => decide (n.op = 15)) = false) ↔ ∀ (i : Nat) (n : InstrD), L[i]? = some n → n.op = 15 → ¬ (k < i ∧ (i : Int) < m.dst) ∧ ¬ (i < k ∧ m.dst ≤ (i : Int)) := by
 rw [List.any_eq_false]
 constructor
 ·intro h i n hi2 hn
  have key : lo ≤ i → i < hi → False := fun h1 h2 => by
   refine h n ?_ (by simpa using hn)
   have : ((L.drop lo).take (hi - lo))[i - lo]? = some n := by
    rw [List.getElem?_take, if_pos (by omega), List.getElem?_drop, ← hi2]
    congr 1; omega
   exact List.mem_of_getElem? this
  constructor
  ·rintro ⟨a, b⟩
   rw [if_pos (by omega)] at hhi
   exact key (by omega) (by omega)
  ·rintro ⟨a, b⟩
   rw [if_neg (by omega)] at hhi
   exact key (by omega) (by omega)
 ·intro h n hn hq
  have hq : n.op = 15 := by simpa using hq
  obtain ⟨j, hj⟩ := List.getElem?_of_mem hn
  rw [List.getElem?_take] at hj
  split at hj
  ·rw [List.getElem?_drop] at hj
   obtain ⟨h1, h2⟩ := h _ n hj hq
   have hne : lo + j ≠ k := fun e => by
    rw [e, hk] at hj
    cases hj
    omega
   by_cases e : (k : Int) < m.dst
   ·rw [if_pos e] at hhi
    exact h1 ⟨by omega, by omega⟩
   ·rw [if_neg e] at hhi
    exact h2 ⟨by omega, by omega⟩
  ·cases hj
end Go.Proofs.YtgpekgnhbccnoaaGreat
