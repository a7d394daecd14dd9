/-
  The log of undoing: walk of Clean.
  No condition but sizes.
-/
import Derived.Test.YtgpekgnhbccnoaaGreatPkZb28
import Derived.Test.YtgpekgnhbccnoaaGreatPkZb29
import Derived.Test.YtgpekgnhbccnoaaGreatKeysShelf
import Derived.Shelf.AbstractIn
namespace Go.Proofs.YtgpekgnhbccnoaaGreat
open Go Go.RowKit Go.Maps Go.Sort Go.Shelf

attribute [local go_sem] Oper.semAt_some

theorem keys_permU {D : DataW Value} {M : List (Int × GSl)} (h : MapIs ikey GSl.v D M) : (intKeys D).Perm (M.map Prod.fst) := by
  obtain ⟨E, rfl, h1, _⟩ := h
  have h2 := h1.map (fun p : Lit × DataW Value => Go.intOf p.1)
  rw [List.map_map] at h2
  exact h2
theorem Tryz.sortsG (m : Nat) : AnyZI.SortsIn Tryz.prog Tryz.sortedG_ren Fence.wide m :=
  ⟨fun blk off cap ss W hH hblk hsz => callsIn_wide.2 (AnyM.slices_Sort_int Tryz.sortG blk off cap ss W hH hblk hsz),
   fun p cap W => callsIn_wide.2 (AnyM.slices_Sort_int_none Tryz.sortG p cap W)⟩
/-- The keys of a log's map, sorted. -/
theorem keys_log {w : World} {lb mb : Nat} {most used : Int} {L : List (Int × Ent)} {M : List (Int × GSl)} {S : Nat → Prop} (h : LogG w lb mb most used M S) (hL : ∀ x, (ofM M x).es.map GEnt.mod = ofL L x) {ss : List Int} (hp : ss.Perm (M.map Prod.fst)) : ss.mergeSort (fun x y => decide (x ≤ y)) = keysL L := by
  refine inc_ext (inc_sort (hp.nodup_iff.2 h.map.nodup)) (keysL_inc L) fun x => ?_
  rw [(List.mergeSort_perm _ _).mem_iff, hp.mem_iff, mem_keysL, ← mem_ofL, ← hL x]
  have h1 := (h.at x).2
  cases hc : (ofM M x).es with
  | nil =>
    rw [hc] at h1
    constructor
    · intro hx
      rw [List.contains_iff_mem.2 hx] at h1; cases h1
    · intro hx; exact absurd rfl hx
  | cons e es =>
    rw [hc] at h1
    exact ⟨fun _ => by simp, fun _ => List.contains_iff_mem.1 (by rw [h1]; rfl)⟩

/-- What lies in memory while entries are taken back on a copy. -/
structure CI (w : World) (xb cb : Nat) (kv : Value) (ks : List Int) (M' : List MTab) (Sk : Nat → Prop) (ds : List Nat) (W : World) : Prop where
  rws : Rws W cb M' Sk
  new : ∀ k, Sk k → w.heap.size ≤ k ∧ ¬ kv.ownBlock = some k
  box : Bk W xb 37 [rptr cb]
  keys : OwnInts W 2 kv ks
  nodup : ds.Nodup
  marks : ∀ D ∈ ds, W.heap[D]? = some (.deferred (some []))
  dnew : ∀ D ∈ ds, w.heap.size ≤ D
  fr : Fr w W Nil
theorem CI.dlt {w W : World} {xb cb : Nat} {kv : Value} {ks : List Int} {M' : List MTab} {Sk : Nat → Prop} {ds : List Nat} (h : CI w xb cb kv ks M' Sk ds W) : ∀ D ∈ ds, D < W.heap.size := fun D hD => (Array.getElem?_eq_some_iff.1 (h.marks D hD)).1
theorem CI.nocell {w W : World} {xb cb : Nat} {kv : Value} {ks : List Int} {M' : List MTab} {Sk : Nat → Prop} {ds : List Nat} (h : CI w xb cb kv ks M' Sk ds W) {k : Nat} {o : Obj} (hk : W.heap[k]? = some o) (ho : o.isCells = false) : ¬ Sk k := fun hs => by
  obtain ⟨c, e, h1, _⟩ := h.rws.cells k hs
  rw [hk] at h1; cases h1; cases ho
theorem CI.turn {w W W' : World} {xb cb B : Nat} {kv : Value} {ks : List Int} {M' : List MTab} {Sk : Nat → Prop} {ds : List Nat} {row : Option Nat} (h : CI w xb cb kv ks M' Sk ds W) (hg : W.grownBy W' row) (hw : w.heap.size ≤ B) (hd : ∀ D ∈ ds, D < B) (hr : ∀ r, row = some r → B ≤ r ∧ ∃ o : Obj, W.heap[r]? = some o ∧ o.isCells = false) : CI w xb cb kv ks M' Sk ds W' := by
  have hf : Fr W W' (fun k => row = some k) := (Fr.refl W _).grown hg fun k hk _ => hk
  have hcell : ∀ k c e f, W.heap[k]? = some (.cells c e f) → ¬ (row = some k) := by
    intro k c e f hc hk
    obtain ⟨_, o, ho, hn⟩ := hr k hk
    rw [hc] at ho; cases ho; cases hn
  refine ⟨h.rws.fr hf fun k hk hk2 => ?_, h.new, h.box.fr hf (hcell _ _ _ _ h.box), h.keys.fr hf fun k hk => ?_, h.nodup, fun D hD => ?_, h.dnew, h.fr.grown hg fun k hk hlt => by have := (hr k hk).1; omega⟩
  · obtain ⟨c, e, h1, _⟩ := h.rws.cells k hk
    exact hcell _ _ _ _ h1 hk2
  · obtain ⟨cur, hc⟩ := row_ty h.keys hk
    exact hcell _ _ _ _ hc
  · exact (hf.block D (h.dlt D hD) fun e => by have := (hr D e).1; have := hd D hD; omega).trans (h.marks D hD)
theorem CI.fr0 {w W W' : World} {xb cb : Nat} {kv : Value} {ks : List Int} {M' : List MTab} {Sk : Nat → Prop} {ds : List Nat} (h : CI w xb cb kv ks M' Sk ds W) (hf : Fr W W' Nil) : CI w xb cb kv ks M' Sk ds W' :=
  ⟨h.rws.fr0 hf, h.new, h.box.fr hf fun h => h, h.keys.fr hf fun _ _ h => h, h.nodup, fun D hD => (hf.block D (h.dlt D hD) fun h => h).trans (h.marks D hD), h.dnew, h.fr.trans0 hf⟩
/-- The tables are others. -/
theorem CI.upd {w W W' : World} {xb cb Bs : Nat} {kv : Value} {ks : List Int} {M' M2 : List MTab} {Sk : Nat → Prop} {ds : List Nat} {sv : Value} (h : CI w xb cb kv ks M' Sk ds W) (hb : Bk W Bs 138 [sv]) (hu : UpdS W cb Sk M2 W') (B : Nat) :
    (∃ Sk', CI w xb cb kv ks M2 Sk' ds W') ∧ Bk W' Bs 138 [sv] ∧ KeepB w.heap.size Bs W W' ∧ KeepsFrom B W W' := by
  obtain ⟨S', h1, h2, h3⟩ := hu
  have hbs : ¬ Sk Bs := h.rws.notTy hb (by rintro (e | e | e | e | e) <;> exact absurd e (by decide))
  have hxb : ¬ Sk xb := h.rws.notTy h.box (by rintro (e | e | e | e | e) <;> exact absurd e (by decide))
  refine ⟨⟨S', h1, fun k hk => ?_, h.box.fr h3 hxb, h.keys.fr h3 fun k hk hs => (h.new k hs).2 hk, h.nodup, fun D hD => ?_, h.dnew, h.fr.trans h3 fun j hj hs => by have := (h.new j hs).1; omega⟩, hb.fr h3 hbs, h3.mono fun k _ hs => ⟨(h.new k hs).1, fun e => hbs (by rw [← e]; exact hs)⟩, h3.size, fun k o _ hk ho => ?_⟩
  · rcases h2 k hk with h4 | h4
    · exact h.new k h4
    · refine ⟨Nat.le_trans h.fr.size h4, fun e => ?_⟩
      have := h.keys.lt k e
      omega
  · exact (h3.block D (h.dlt D hD) (h.nocell (h.marks D hD) rfl)).trans (h.marks D hD)
  · exact (h3.block k (Array.getElem?_eq_some_iff.1 hk).1 (h.nocell hk ho)).trans hk

def UCleanRet (M : List MTab) (L : List (Int × Ent)) (w : World) (e : Ending) (w' : World) : Prop :=
  ∃ cb Sc, e = .returned (rptr cb) ∧ Rws w' cb (cleanM M L) Sc ∧ (∀ k, Sc k → w.heap.size ≤ k) ∧ Fr w w' Nil
set_option maxRecDepth 100000 in
set_option maxHeartbeats 4000000 in
theorem uclean_any {lb rb : Nat} {most : Int} {L : List (Int × Ent)} {M : List MTab} {S Sr : Nat → Prop} {N : Nat} (w : World) (h : LogAt w lb most L S) (hr : Rws w rb M Sr) (hg : Good M) (hf : Few N M) (hl : N + L.length ≤ 100000) (hwf : ∀ p ∈ L, (Lit.int .i64 p.1).wf = true) :
    Calls Tryz.prog 30 #[lptr lb, rptr rb] w (UCleanRet M L w) := by
  have HL := Lib.hid h
  have HR := Lib.hid hr
  have HG := Lib.hid hg
  have HF := Lib.hid hf
  have HWF := Lib.hid hwf
  clear h hr hg hf hwf
  refine (callsIn_wide (n := 8)).1 ?_
  refine callsIn_of_wp_marks Tryz.func30 rfl trivial ?_ rfl
  simp only [Tryz.ntmps30, List.size_toArray, List.length_cons, List.length_nil, Nat.reduceAdd, Nat.reduceSub, Array.replicate_succ, Array.replicate_zero, List.push_toArray, List.append_toArray, List.nil_append, List.cons_append]
  gi_wp2
  refine ⟨trivial, ?_⟩
  refine (callsIn_wide.2 (api_copy HR.out HG.out)).mono ?_
  rintro e w1 ⟨cb, Sc, rfl, hc, hcn, hf1⟩
  obtain ⟨mb, M0, hG, hLe⟩ := HL.out
  have hG1 := (hG.fr0 hf1).fr0 ((Fr.refl w1 Nil).alloc (.cells #[rptr cb] 37))
  obtain ⟨D, hown, hD⟩ := hG1.map
  have hbl := hown.lt
  have hkp := keys_permU hD
  have hsz := hD.size
  have hfew := hG.few hLe
  have q2 := hG1.root.cell 2
  have hx0 := Bk.new w1 37 #[rptr cb]
  have HGG := Lib.hid hG
  have HLE := Lib.hid hLe
  have HC := Lib.hid hc
  have HCN := Lib.hid hcn
  have HF1 := Lib.hid hf1
  have HX0 := Lib.hid hx0
  clear hG hLe hc hcn hf1 hx0
  obtain ⟨W1, hW1⟩ : ∃ W1, w1.alloc (.cells #[rptr cb] 37) = W1 := ⟨_, rfl⟩
  have hseq : SeqGives Fence.wide 4 Tryz.prog 100 #[.pointer (some ⟨(w1.alloc (.cells #[rptr cb] 37)).heap.size, 0, none⟩)] encZ (fun ss => ss.Perm (intKeys D)) (Maps.size D) ((w1.alloc (.cells #[rptr cb] 37)).alloc (.cells #[.map (some mb)] 101)) :=
    AnyZI.keys_gives (ρ := Tryz.keysG_ren) { Tryz.keysG with } Fence.wide _ trivial rfl (by omega) (w1.alloc (.cells #[rptr cb] 37)).heap.size mb _ D _ (by simp) (by simp) (by
      obtain ⟨es, clock, hb, Ft, hs, hD⟩ := hown
      exact ⟨es, clock, (Below.heap_alloc _ _ mb hbl).trans hb, Ft, hs, hD⟩)
  have cK : ∀ mb W, CallsIn Fence.wide 7 Tryz.prog 72 #[.map mb] W fun e w' => e = .returned (.func (.func 100) #[] #[.pointer (some ⟨W.heap.size, 0, none⟩)]) ∧ w' = W.alloc (.cells #[.map mb] 101) := fun mb W => AnyZI.keys_in Tryz.keysG Fence.wide 7 trivial rfl mb W
  have cS := AnyZI.sorted_in Tryz.sortedG Fence.wide 7 trivial trivial trivial trivial rfl (by omega) (Tryz.sortsG _) (enters_of Tryz.func99 (by kernel_rfl) rfl) 100 #[.pointer (some ⟨(w1.alloc (.cells #[rptr cb] 37)).heap.size, 0, none⟩)] trivial (enters_of Tryz.func100 (by kernel_rfl) rfl) _ _ (by rw [hsz]; unfold maxLen; omega) (by rw [hsz]; omega) _ hseq
  change CallsIn _ _ Tryz.prog 71 _ _ _ at cS
  have hfK : Fence.wide.fn 72 := trivial
  have hfS : Fence.wide.fn 71 := trivial
  simp only [World.size_alloc] at cS
  have HKP := Lib.hid hkp
  clear hkp hsz hown hD hseq hbl hG1 hW1
  gi_wp2
  gi_wp2_with (first
    | (gi_at_call 72; refine (cK _ _).mono ?_; rintro e w' ⟨rfl, rfl⟩)
    | (gi_at_call 71; refine cS.mono ?_; rintro e w' ⟨v, ss, rfl, hS, hrow, hnil, hb⟩; obtain ⟨ka, kc, rfl⟩ := (SlAt.of_own hrow).1.shape))
  have hks := keys_log HGG.out HLE.out (hS.trans HKP.out)
  have hkl : ss.length = (keysL L).length := by rw [← hks, List.length_mergeSort]
  rw [hks, hkl] at hrow
  rw [hkl]
  have hf2 : Fr ((w1.alloc (.cells #[rptr cb] 37)).alloc (.cells #[.map (some mb)] 101)) w' Nil := ⟨hb.os, hb.tape, hb.output, hb.size, fun k hk _ => hb.block k (by simpa using hk)⟩
  have hkn : ∀ k, (Value.slice ka (keysL L).length kc).ownBlock = some k → w1.heap.size + 2 ≤ k := fun k hk => (World.ownsRow.lt hrow k hk).1
  obtain ⟨ks, hkse⟩ : ∃ ks, keysL L = ks := ⟨_, rfl⟩
  have HKS := Lib.hid hkse
  have hkb : ks.length ≤ 100000 := by
    have h1 := nodup_len (l := keysL L) (m := L.map Prod.fst) ((keysL_inc L).imp fun h e => by omega) fun x hx => mem_keysL.1 hx
    rw [hkse] at h1
    simp at h1
    omega
  rw [hkse] at hrow hkn ⊢
  have HC0 : Hid (CI w w1.heap.size cb (.slice ka ks.length kc) ks M Sc [] w') := by
    have : CI w w1.heap.size cb (.slice ka ks.length kc) ks M Sc [] w' := ⟨((HC.out.fr0 ((Fr.refl w1 Nil).alloc _)).fr0 ((Fr.refl _ Nil).alloc _)).fr0 hf2, fun k hk => ⟨HCN.out k hk, fun e => by have := hkn k e; have := HC.out.lt k hk; omega⟩, (HX0.out.alloc _).fr hf2 fun h => h, own_mono hrow (Nat.zero_le _), List.Pairwise.nil, (fun D hD => by cases hD), (fun D hD => by cases hD), ((HF1.out.alloc _).alloc _).trans0 hf2⟩
    exact this
  generalize w1.heap.size = xb at *
  clear hS hrow hnil hb hks hkl hf2 hkn hkse cK cS hfK hfS q2 HC HCN HX0 HF1 HKP
  refine wpIn_loop (fun a W => ∃ (k : Nat) (ds : List Nat) (Sk : Nat → Prop) (u7 u9 u24 u25 u26 u27 u28 u29 u30 u31 u32 u33 u34 u35 u36 u37 u38 u39 u40 : Value), a = { tmps := #[lptr lb, rptr rb, undef, undef, .pointer none, .pointer (some ⟨xb, 0, none⟩), undef, u7, undef, u9, lptr lb, .bool false, rptr rb, rptr cb, rptr cb, .bool false, lptr lb, .pointer (some ⟨lb, 0, none⟩), .pointer (some ⟨lb, 2, none⟩), .map (some mb), .func (.func 100) #[] #[.pointer (some ⟨xb + 1, 0, none⟩)], .slice ka ks.length kc, .int .i64 (ks.length : Int), .int .i64 (k : Int), u24, u25, u26, u27, u28, u29, u30, u31, u32, u33, u34, u35, u36, u37, u38, u39, u40, undef], defers := ds.map markD } ∧ k ≤ ks.length ∧ CI w xb cb (.slice ka ks.length kc) ks ((seqTo L (ks.take k)).foldl undoE M) Sk ds W)
    (fun a _ => ks.length - (intOf (a.tmps.getD 23 undef)).toNat) ?start ?round
  case start => exact ⟨0, [], Sc, undef, undef, undef, undef, undef, undef, undef, undef, undef, undef, undef, undef, undef, undef, undef, undef, undef, undef, undef, rfl, by omega, HC0.out⟩
  case round =>
    clear HC0
    rintro a W ⟨k, ds, Sk, u7, u9, u24, u25, u26, u27, u28, u29, u30, u31, u32, u33, u34, u35, u36, u37, u38, u39, u40, rfl, hk, hci⟩
    have HCI := Lib.hid hci
    have q0 := hci.box.cell 0
    clear hci
    by_cases hlt : k < ks.length
    · obtain ⟨kb, kc2, hkv, _⟩ := HCI.out.keys.form (by omega)
      simp only [Value.slice.injEq, true_and] at hkv
      obtain ⟨rfl, rfl⟩ := hkv
      have q1 := HCI.out.keys.cell rfl k hlt
      rw [show ks.getD k 0 = ks[k] by simp [List.getD_eq_getElem?_getD, hlt]] at q1
      have hG2 := HGG.out.fr0 HCI.out.fr
      have q2 := hG2.root.cell 2
      have hmem : ks[k] ∈ L.map Prod.fst := by
        have h1 := List.getElem_mem hlt
        rw [← mem_keysL, HKS.out]; exact h1
      have hwk : (Lit.int .i64 ks[k]).wf = true := by
        obtain ⟨p, hp, e⟩ := List.mem_map.1 hmem
        rw [← e]; exact HWF.out p hp
      have qL := look_run hG2 hwk
      have hne : (ofM M0 ks[k]).es ≠ [] := fun e => by
        have h1 := HLE.out ks[k]
        rw [e] at h1
        exact mem_ofL.2 hmem h1.symm
      have HSN : Hid (seqTo L (ks.take (k + 1)) = seqTo L (ks.take k) ++ ((ofM M0 ks[k]).es.map GEnt.mod).reverse) := by
        have : seqTo L (ks.take (k + 1)) = seqTo L (ks.take k) ++ ((ofM M0 ks[k]).es.map GEnt.mod).reverse := by
          rw [List.take_succ_eq_append_getElem hlt, seqTo_snoc, HLE.out]
        exact this
      have HSL : Hid ((seqTo L (ks.take k)).length + (ofM M0 ks[k]).es.length ≤ L.length) := by
        have h1 := seqTo_len L (ks.take (k + 1)) (by
          have : ks.Nodup := by rw [← HKS.out]; exact (keysL_inc L).imp fun h e => by omega
          exact (List.take_sublist _ _).nodup this)
        rw [HSN.out, List.length_append] at h1
        have : (seqTo L (ks.take k)).length + (ofM M0 ks[k]).es.length ≤ L.length := by simpa using h1
        exact this
      have hat := (hG2.at ks[k]).1
      have hpos : 0 < (ofM M0 ks[k]).es.length := List.length_pos_iff.2 hne
      obtain ⟨vb, vc, hv⟩ : ∃ b c, (ofM M0 ks[k]).v = .slice (some ⟨b, 0, none⟩) (ofM M0 ks[k]).es.length c := by
        rcases hat.row.2 with ⟨_, h2⟩ | ⟨b, c, cur, h1, _⟩
        · omega
        · exact ⟨b, c, h1⟩
      have hrow := hat.row
      rw [hv] at qL hrow
      have hvb : vb < w.heap.size := by
        have h1 := (HGG.out.at ks[k]).1.row
        rw [hv] at h1
        exact (World.ownsRow.lt h1 vb rfl).2
      have HEO : Hid (∀ W, Fr w W Nil → ∀ e ∈ (ofM M0 ks[k]).es, EntOk W e) := fun W hf e he => ((HGG.out.fr0 hf).at ks[k]).1.ents e he
      have hesl : (ofM M0 ks[k]).es.length ≤ 100000 := by have := HSL.out; omega
      generalize (ofM M0 ks[k]).es = es at *
      generalize ks[k] = who at *
      have HROW := Lib.hid hrow
      have hki : (k : Int) < (ks.length : Int) := by omega
      have HDL := Lib.hid HCI.out.dlt
      clear hG2 hmem hwk hne hat hv hrow
      gi_wp2
      refine ⟨trivial, ?_⟩
      refine (callsIn_wide.2 (backward_any _ _ _ _)).mono ?_
      rintro e w5 ⟨rfl, rfl⟩
      gi_wp2
      obtain ⟨W0, hW0⟩ : ∃ W0, W.alloc (.cells #[.slice (some ⟨vb, 0, none⟩) es.length vc] 138) = W0 := ⟨_, rfl⟩
      have hs0 : W0.heap.size = W.heap.size + 1 := by rw [← hW0]; simp
      have hf0 : Fr W W0 Nil := by rw [← hW0]; exact (Fr.refl W Nil).alloc _
      have hbs0 : Bk W0 W.heap.size 138 [.slice (some ⟨vb, 0, none⟩) es.length vc] := by rw [← hW0]; exact Bk.new W _ _
      have hww := HCI.out.fr.size
      have hr0 : W0.ownsRow 0 152 3 (.slice (some ⟨vb, 0, none⟩) es.length vc) es.length (es.flatMap GEnt.vals) := hf0.own HROW.out fun _ _ h => h
      have HC0 := Lib.hid (HCI.out.fr0 hf0)
      have HB0 := Lib.hid hbs0
      rw [hW0]
      have HS0 := Lib.hid hs0
      have hcq := hbs0.cell 0
      generalize W.heap.size = Bs at *
      clear hW0 hf0 hbs0 q0 q1 q2 qL
      refine wpIn_rangeFunc_ownH (F := Fence.wide) rfl (by decide) (gf := 101) (lb := #[.pointer (some ⟨Bs, 0, none⟩)]) rfl trivial (enters_of Tryz.func101 (by kernel_rfl) rfl)
        (backward_stops _ (by decide) Bs w.heap.size vb vc es hpos (by omega) hvb W0 hcq hr0 (by rw [HS0.out]; omega) (by rw [HS0.out]; omega)) keepB_t (keepB_b (by rw [HS0.out]; omega) (by rw [HS0.out]; omega)) (Below.refl _ _) (fun _ => rfl)
        (fun pre W2 => (∃ Sk', CI w xb cb (.slice (some ⟨kb, 0, none⟩) ks.length kc) ks ((pre.map fun p => p.1.2.mod).foldl undoE ((seqTo L (ks.take k)).foldl undoE M)) Sk' ds W2) ∧ Bk W2 Bs 138 [.slice (some ⟨vb, 0, none⟩) es.length vc])
        (fun _ _ _ => False)
        (fun pre A C row hs hg hr => ⟨hs.1.imp fun _ h => h.turn hg (B := W0.heap.size) (by rw [HS0.out]; omega) (fun D hD => by have := HDL.out D hD; rw [HS0.out]; omega) hr, hs.2.fr ((Fr.refl A _).grown hg fun k hk _ => hk) fun hk => by
          obtain ⟨_, o, ho, hn⟩ := hr _ hk
          have hb := hs.2
          unfold Bk at hb
          rw [hb] at ho; cases ho; cases hn⟩)
        (fun _ _ _ _ _ hs _ _ => hs)
        ⟨⟨Sk, HC0.out⟩, HB0.out⟩
        (fun x a' W2 => ∃ Ba, Bk W2 Ba 152 x.1.2.vals ∧ a' = { tmps := #[lptr lb, rptr rb, undef, undef, .pointer none, .pointer (some ⟨xb, 0, none⟩), undef, .int .i64 who, undef, .pointer (some ⟨Ba, 0, none⟩), lptr lb, .bool false, rptr rb, rptr cb, rptr cb, .bool false, lptr lb, .pointer (some ⟨lb, 0, none⟩), .pointer (some ⟨lb, 2, none⟩), .map (some mb), .func (.func 100) #[] #[.pointer (some ⟨xb + 1, 0, none⟩)], .slice (some ⟨kb, 0, none⟩) ks.length kc, .int .i64 (ks.length : Int), .int .i64 (k : Int), .bool true, .pointer (some ⟨kb, k, none⟩), .int .i64 who, lptr lb, .pointer (some ⟨lb, 0, none⟩), .pointer (some ⟨lb, 2, none⟩), .map (some mb), .int .i64 who, .slice (some ⟨vb, 0, none⟩) es.length vc, .func (.func 101) #[] #[.pointer (some ⟨Bs, 0, none⟩)], .int .i64 (x.1.1 : Int), .agg #[.int .i64 x.1.2.table, .int .i64 x.1.2.key, x.1.2.fv], u36, u37, u38, u39, u40, undef], defers := [] })
        (fun x a' _ A C row hs hg hr => by
          obtain ⟨Ba, h1, h3⟩ := hs
          refine ⟨Ba, (hg.block Ba h1.lt fun e2 => ?_).trans h1, h3⟩
          obtain ⟨_, o, ho, hn⟩ := hr Ba e2.symm
          unfold Bk at h1
          rw [h1] at ho; cases ho; cases hn)
        ?assign ?body ?done ?stop
      case assign =>
        rintro l2 pre x W2 K hi hK
        obtain ⟨ef, ec, hev⟩ := x.1.2.shape
        dsimp only [encB]
        rw [hev]
        gi_wp2
        refine hK _ _ ((KeepsOthers.alloc _ _).from _) (KeepB.nil ((Fr.refl _ _).alloc _)) ⟨hi.1.imp fun _ h => h.fr0 ((Fr.refl _ _).alloc _), hi.2.alloc _⟩ ⟨W2.heap.size, ?_, ?_⟩
        · have := Bk.new W2 152 #[.int .i64 x.1.2.table, .int .i64 x.1.2.key, .func ef #[] ec]
          unfold GEnt.vals
          rw [hev]
          exact this
        · rw [hev]
      case body =>
        rintro l2 pre x a' W2 hl2 _ ⟨⟨Sk2, hci2⟩, hbs2⟩ ⟨Ba, hA, rfl⟩ hlt2
        have hgood := (good_undos (seqTo L (ks.take k) ++ pre.map fun p => p.1.2.mod) HG.out HF.out (by rw [List.length_append, List.length_map]; have := HSL.out; omega)).1
        rw [List.foldl_append] at hgood
        have heo := HEO.out W2 hci2.fr x.1.2 x.2
        have q0 := hci2.box.cell 0
        have q2 := hA.cell 2
        have HGOOD := Lib.hid hgood
        have HEOX := Lib.hid heo
        have HCI2 := Lib.hid hci2
        have HBS2 := Lib.hid hbs2
        clear hgood heo hci2 hbs2 hA
        rcases hq : x.1.2.was with _ | xs
        all_goals
          have HQ := Lib.hid hq
          have HFV : Hid (x.1.2.fv = match x.1.2.was with | none => .func (.func 119) #[] #[.pointer (some ⟨x.1.2.tb, 0, none⟩), .pointer (some ⟨x.1.2.kb, 0, none⟩)] | some _ => .func (.func 120) #[] #[.pointer (some ⟨x.1.2.tb, 0, none⟩), .pointer (some ⟨x.1.2.kb, 0, none⟩), .pointer (some ⟨x.1.2.cb, 0, none⟩)]) := rfl
          have q3 : W2.cell? ⟨Ba, 2, none⟩ = some x.1.2.fv := q2
          rw [HFV.out, hq] at q3
          clear hq q2
          gi_wp2
          refine ⟨trivial, ?_⟩
          first
            | refine (CallsIn.inRound l2 (callsIn_wide.2 (back1_any x.1.2 _ HCI2.out.rws HGOOD.out HEOX.out HQ.out))).mono ?_
            | refine (CallsIn.inRound l2 (callsIn_wide.2 (back2_any x.1.2 xs _ HCI2.out.rws HGOOD.out HEOX.out HQ.out))).mono ?_
          rintro e W3 ⟨rfl, hu⟩
          have HU := Lib.hid (HCI2.out.upd HBS2.out hu W0.heap.size)
          clear hu
          gi_wp2
          obtain ⟨h1, h2, h3, h4⟩ := HU.out
          exact ⟨h4, h3, ⟨by rw [List.map_append, List.foldl_append]; exact h1, h2⟩⟩
      case done =>
        rintro D xs W2 hD rfl ⟨⟨Sk2, hci2⟩, hbs2⟩ hDW
        have HNX : Hid (CI w xb cb (.slice (some ⟨kb, 0, none⟩) ks.length kc) ks ((seqTo L (ks.take (k + 1))).foldl undoE M) Sk2 (D :: ds) W2) := by
          have h1 := hci2
          rw [cameB_mods, ← List.foldl_append, ← HSN.out] at h1
          have : CI w xb cb (.slice (some ⟨kb, 0, none⟩) ks.length kc) ks ((seqTo L (ks.take (k + 1))).foldl undoE M) Sk2 (D :: ds) W2 := ⟨h1.rws, h1.new, h1.box, h1.keys, List.nodup_cons.2 ⟨fun hm => by have := HDL.out D hm; have := HS0.out; omega, h1.nodup⟩, fun D' hD' => by
            rcases List.mem_cons.1 hD' with rfl | hD'
            · exact hDW
            · exact h1.marks D' hD', fun D' hD' => by
            rcases List.mem_cons.1 hD' with rfl | hD'
            · have := HS0.out; omega
            · exact h1.dnew D' hD', h1.fr⟩
          exact this
        clear hci2 hbs2 hDW
        gi_wp2
        refine ⟨⟨k + 1, D :: ds, Sk2, _, _, _, _, _, _, _, _, _, _, _, _, _, _, _, _, _, _, _, rfl, by omega, HNX.out⟩, by simp [intOf]; omega⟩
      case stop =>
        rintro D c pre W2 _ _ h _
        exact h.elim
    · obtain rfl : k = ks.length := by omega
      gi_wp2
      refine leaves_marks (F := Fence.wide) ds W HCI.out.nodup HCI.out.marks fun W' hf => ⟨_, results_tmp rfl _ _ _, cb, Sk, rfl, ?_, fun k hk => (HCI.out.new k hk).1, HCI.out.fr.trans hf fun j hj hm => by have := HCI.out.dnew j hm; omega⟩
      have h1 := HCI.out.rws
      rw [List.take_length, ← HKS.out] at h1
      exact h1.fr hf fun k hk hm => HCI.out.nocell (HCI.out.marks k hm) rfl hk
end Go.Proofs.YtgpekgnhbccnoaaGreat
