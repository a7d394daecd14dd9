/-
  The document's rows: walk of Copy.
  No condition but sizes.
-/
import Derived.Test.YtjpenaodkfljhaaRfNew
import Derived.Test.YtjpenaodkfljhaaSink
namespace Go.Proofs.Ytjpenaodkfljhaa
open Go Go.RowKit

structure CpInv (w wr : World) (N : List Int) (g : List QRow) (nv lv : Value) : Prop where
  root : Bk wr w.heap.size 157 [nv, lv]
  n : OwnInts wr 3 nv N
  l : wr.ownsRow 0 159 3 lv g.length (flatQ g)
  c : ∀ r ∈ g, OwnInts wr 2 r.cv r.cols
  nn : ∀ k, nv.ownBlock = some k → w.heap.size < k
  nl : ∀ k, lv.ownBlock = some k → w.heap.size < k ∧ nv.ownBlock ≠ some k ∧ ∀ r ∈ g, r.cv.ownBlock ≠ some k
  nc : ∀ r ∈ g, ∀ k, r.cv.ownBlock = some k → w.heap.size < k
  fr : Fr w wr Nil
theorem CpInv.next {w w1 w2 w4 : World} {N : List Int} {g : List QRow} {nv : Value} {al : Option Addr} {cl : Nat} {t k : Int} {ac : Option Addr} {cc : Nat} {xs : List Int} {al2 : Option Addr} {cl2 : Nat} (h : CpInv w w1 N g nv (.slice al g.length cl)) (hc : Cloned xs w1.drew (.slice ac xs.length cc) w2)
    (ho : w4.ownsRow 0 159 3 (.slice al2 (g.length + 1) cl2) (g.length + 1) (flatQ g ++ [.int .i64 t, .int .i64 k, .slice ac xs.length cc]))
    (hg : (w2.alloc (Obj.cells #[Value.int .i64 t, .int .i64 k, .slice ac xs.length cc] 159)).grownBy w4 (Value.slice al g.length cl).ownBlock)
    (hat : (Value.slice al2 (g.length + 1) cl2).ownBlock = (Value.slice al g.length cl).ownBlock ∨ (Value.slice al2 (g.length + 1) cl2).ownBlock = some (w2.alloc (Obj.cells #[Value.int .i64 t, .int .i64 k, .slice ac xs.length cc] 159)).heap.size) :
    CpInv w (w4.setCell ⟨w.heap.size, 1, none⟩ (.slice al2 (g.length + 1) cl2)) N (g ++ [⟨t, k, .slice ac xs.length cc, xs⟩]) nv (.slice al2 (g ++ [(⟨t, k, .slice ac xs.length cc, xs⟩ : QRow)]).length cl2) := by
  obtain ⟨hc1, hc2, hc3⟩ := hc
  have s1 := h.fr.size
  have s2 : w1.heap.size ≤ w2.heap.size := hc3.size
  have hlt := h.root.lt
  have f2 : Fr w1 w2 Nil := (Fr.refl w1 Nil).drew.trans0 hc3
  have f3 : Fr w1 (w2.alloc (Obj.cells #[Value.int .i64 t, .int .i64 k, .slice ac xs.length cc] 159)) Nil := f2.alloc _
  have f34 : Fr (w2.alloc (Obj.cells #[Value.int .i64 t, .int .i64 k, .slice ac xs.length cc] 159)) w4 (fun j => (Value.slice al g.length cl).ownBlock = some j) := (Fr.refl _ _).grown hg fun j hj _ => hj
  have f4 : Fr w1 w4 (fun j => (Value.slice al g.length cl).ownBlock = some j) := f3.of_nil.transS f34
  have f5 : Fr w4 (w4.setCell ⟨w.heap.size, 1, none⟩ (.slice al2 (g.length + 1) cl2)) (fun j => j = w.heap.size) := Fr.store _ _ _ _
  have hl : (g ++ [(⟨t, k, .slice ac xs.length cc, xs⟩ : QRow)]).length = g.length + 1 := by simp
  have hlv : ∀ j, (Value.slice al g.length cl).ownBlock = some j → j < w1.heap.size := fun j hj => (World.ownsRow.lt h.l j hj).2
  have hal : ∀ j, (Value.slice al2 (g.length + 1) cl2).ownBlock = some j → (Value.slice al g.length cl).ownBlock = some j ∨ w2.heap.size < j := by
    intro j hj
    rcases hat with e | e <;> rw [e] at hj
    · exact .inl hj
    · right; cases hj; simp
  rw [hl]
  refine ⟨?_, ?_, ?_, ?_, h.nn, ?_, ?_, ?_⟩
  · have h1 := h.root.fr f4 fun e => by have := (h.nl _ e).1; omega
    exact h1.set 1 _
  · have h1 := h.n.fr f4 fun j hj e => (h.nl _ e).2.1 hj
    exact h1.fr f5 fun j hj e => by have := h.nn j hj; omega
  · rw [flatQ_append]
    have h1 := f5.own ho fun j hj e => ?_
    · rw [hl]; simpa [flatQ] using h1
    · have e : j = w.heap.size := e
      rcases hal j hj with hj | hj
      · have := (h.nl j hj).1; omega
      · omega
  · intro r hr
    rw [List.mem_append, List.mem_singleton] at hr
    rcases hr with hr | rfl
    · exact ((h.c r hr).fr f4 fun j hj e => (h.nl j e).2.2 r hr hj).fr f5 fun j hj e => by have := h.nc r hr j hj; omega
    · exact ((OwnInts.fr hc1 ((Fr.refl w2 Nil).alloc _) fun _ _ h => h).fr f34 fun j hj e => by have := hc2 j hj; have := hlv j e; simp only [World.drew] at *; omega).fr f5 fun j hj e => by have := hc2 j hj; simp only [World.drew] at *; omega
  · intro j hj
    rcases hal j hj with hj | hj
    · refine ⟨(h.nl j hj).1, (h.nl j hj).2.1, fun r hr => ?_⟩
      rw [List.mem_append, List.mem_singleton] at hr
      rcases hr with hr | rfl
      · exact (h.nl j hj).2.2 r hr
      · intro e; have := hc2 j e; have := hlv j hj; simp only [World.drew] at *; omega
    · refine ⟨by omega, fun e => ?_, fun r hr => ?_⟩
      · have := h.n.lt j e; omega
      · rw [List.mem_append, List.mem_singleton] at hr
        rcases hr with hr | rfl
        · intro e; have := (h.c r hr).lt j e; omega
        · intro e; have := OwnInts.lt hc1 j e; omega
  · intro r hr
    rw [List.mem_append, List.mem_singleton] at hr
    rcases hr with hr | rfl
    · exact h.nc r hr
    · intro j hj; have := hc2 j hj; simp only [World.drew] at *; omega
  · refine (h.fr.trans f4 fun j hlt2 e => ?_).trans f5 fun j hlt2 e => ?_
    · have := (h.nl j e).1; omega
    · have e : j = w.heap.size := e
      omega
theorem qrows_snoc {g g' : List QRow} {i : Nat} {r : QRow} (h1 : qrows g' = qrows (g.take i)) (hr : g[i]? = some r) (v : Value) : qrows (g.take (i + 1)) = qrows (g' ++ [⟨r.table, r.key, v, r.cols⟩]) := by
  have h2 : qrows (g.take (i + 1)) = qrows (g.take i) ++ [r.mod] := by
    unfold qrows
    rw [List.take_add_one, hr]
    simp
  rw [h2, ← h1]
  simp [qrows, QRow.mod]
theorem one3 {w w' : World} {xs : List Int} {v : Value} (t k : Int) (h : Cloned xs w v w') : ∀ u ∈ [Value.int .i64 t, .int .i64 k, v], u.oneCell' = true := by
  intro u hu
  simp only [List.mem_cons, List.not_mem_nil, or_false] at hu
  rcases hu with rfl | rfl | rfl
  · rfl
  · rfl
  · exact (OwnInts.at h.1).one
theorem CpInv.start {w w1 w2 : World} {N : List Int} {a : Option Addr} {c : Nat} (f1 : Fr w w1 Nil) (hb : Bk w2 w.heap.size 157 [.slice none 0 0, .slice none 0 0])
    (ho : w2.ownsRow 0 3 1 (.slice a N.length c) N.length ([] ++ N.map (Value.int .i64))) (hat : (Value.slice a N.length c).ownBlock = (Value.slice none 0 0).ownBlock ∨ (Value.slice a N.length c).ownBlock = some w1.drew.heap.size) (f2 : Fr w w2 Nil) (hlt : w.heap.size < w1.heap.size) :
    CpInv w (w2.setCell ⟨w.heap.size, 0, none⟩ (.slice a N.length c)) N [] (.slice a N.length c) (.slice none 0 0) := by
  have s1 := f1.size
  have f5 : Fr w2 (w2.setCell ⟨w.heap.size, 0, none⟩ (.slice a N.length c)) (fun j => j = w.heap.size) := Fr.store _ _ _ _
  have hnn : ∀ j, (Value.slice a N.length c).ownBlock = some j → w.heap.size < j := by
    intro j hj
    rcases hat with e | e <;> rw [e] at hj
    · cases hj
    · cases hj
      show w.heap.size < w1.heap.size
      exact hlt
  refine ⟨hb.set 0 _, ?_, World.ownsRow_nil _ _ _ _, (fun r hr => by cases hr), hnn, (fun j hj => by simp [Value.ownBlock] at hj), (fun r hr => by cases hr), f2.trans f5 fun j hlt2 e => ?_⟩
  · refine f5.own ho fun j hj e => ?_
    have := hnn j hj
    have e : j = w.heap.size := e
    omega
  · have e : j = w.heap.size := e
    omega

set_option maxRecDepth 100000 in
set_option maxHeartbeats 1000000 in
theorem refcopy_any {qb : Nat} {N : List Int} {L : List QR} {S : Nat → Prop} (w : World) (h : RefAt w qb N L S) (hq : QOk N L) :
    Calls Try.prog 104 #[.pointer (some ⟨qb, 0, none⟩)] w fun e w' => ∃ cb S', e = .returned (.pointer (some ⟨cb, 0, none⟩)) ∧ RefAt w' cb N L S' ∧ (∀ k, S' k → w.heap.size ≤ k) ∧ Fr w w' Nil := by
  obtain ⟨nv0, lv0, g, hr, hL⟩ := h
  obtain ⟨an, cn, hnv⟩ := hr.n.shape
  obtain ⟨al, cl, hlv⟩ := hr.l.sl.shape
  have hgl : g.length ≤ 100000 := by have := hq.l; rw [← hL] at this; simpa [qrows] using this
  have hnl : N.length ≤ 64 := hq.n
  rw [hnv, hlv] at hr
  have HR := Lib.hid hr
  have HL := Lib.hid hL
  have HQ := Lib.hid hq
  have p0 := hr.root.cell 0
  have hf0 : Fr w (w.alloc (Obj.cells #[Value.slice none 0 0, Value.slice none 0 0] 157)) Nil := (Fr.refl w Nil).alloc _
  have hN1 := hr.n.fr hf0 fun _ _ h => h
  have HN1 := Lib.hid hN1
  have HF0 := Lib.hid hf0
  have HB := Lib.hid (Bk.new w 157 #[Value.slice none 0 0, Value.slice none 0 0])
  have P0 := Lib.hid p0
  have z0 := HB.out.cell 0
  have hlt := hr.root.lt
  clear hr hL hq hf0 hN1 hnv hlv
  go_enter Try.func104, Try.ntmps104
  go_wp2_with fail
  refine wp_region_sink 12 (fun w' => w'.cell? ⟨qb, 0, none⟩ = some (.slice an N.length cn) ∧ w'.cell? ⟨w.heap.size, 0, none⟩ = some (.slice none 0 0)) (by kernel_rfl) ?_
  have hS : (fun w' : World => w'.cell? ⟨qb, 0, none⟩ = some (.slice an N.length cn) ∧ w'.cell? ⟨w.heap.size, 0, none⟩ = some (.slice none 0 0)) (w.alloc (Obj.cells #[Value.slice none 0 0, Value.slice none 0 0] 157)).drew := ⟨HF0.out.drew.cell P0.out (fun h => h), z0⟩
  refine wpAnyS_take (i := 0) (v := ?_) rfl (by kernel_rfl) (fun _ _ _ h => h) (by rfl) hS ?_ ?_
  rotate_left
  · intro w' hS'
    (try dsimp only at hS')
    go_simp <;> with_reducible rfl
  try simp only [Act.put, List.setIfInBounds_toArray, List.set_cons_zero, List.set_cons_succ]
  refine wpAnyS_take (i := 1) (v := ?_) rfl (by kernel_rfl) (fun _ _ _ h => h) (by rfl) hS ?_ ?_
  rotate_left
  · intro w' hS'
    (try dsimp only at hS')
    go_simp <;> with_reducible rfl
  try simp only [Act.put, List.setIfInBounds_toArray, List.set_cons_zero, List.set_cons_succ]
  refine wpAnyS_take (i := 2) (v := ?_) rfl (by kernel_rfl) (fun _ _ _ h => h) (by rfl) hS ?_ ?_
  rotate_left
  · intro w' hS'
    (try dsimp only at hS')
    go_simp <;> with_reducible rfl
  try simp only [Act.put, List.setIfInBounds_toArray, List.set_cons_zero, List.set_cons_succ]
  refine wpAnyS_take (i := 3) (v := ?_) rfl (by kernel_rfl) (fun _ _ _ h => h) (by rfl) hS ?_ ?_
  rotate_left
  · intro w' hS'
    (try dsimp only at hS')
    go_simp <;> with_reducible rfl
  try simp only [Act.put, List.setIfInBounds_toArray, List.set_cons_zero, List.set_cons_succ]
  refine wpAnyS_take (i := 4) (v := ?_) rfl (by kernel_rfl) (fun _ _ _ h => h) (by rfl) hS ?_ ?_
  rotate_left
  · intro w' hS'
    (try dsimp only at hS')
    go_simp <;> with_reducible rfl
  try simp only [Act.put, List.setIfInBounds_toArray, List.set_cons_zero, List.set_cons_succ]
  refine wpAnyS_take (i := 5) (v := ?_) rfl (by kernel_rfl) (fun _ _ _ h => h) (by rfl) hS ?_ ?_
  rotate_left
  · intro w' hS'
    (try dsimp only at hS')
    go_simp <;> with_reducible rfl
  try simp only [Act.put, List.setIfInBounds_toArray, List.set_cons_zero, List.set_cons_succ]
  refine wpAnyS_take (i := 6) (v := ?_) rfl (by kernel_rfl) (fun _ _ _ h => h) (by rfl) hS ?_ ?_
  rotate_left
  · intro w' hS'
    (try dsimp only at hS')
    go_simp <;> with_reducible rfl
  try simp only [Act.put, List.setIfInBounds_toArray, List.set_cons_zero, List.set_cons_succ]
  refine wpAnyS_take (i := 7) (v := ?_) rfl (by kernel_rfl) (fun _ _ _ h => h) (by rfl) hS ?_ ?_
  rotate_left
  · intro w' hS'
    (try dsimp only at hS')
    go_simp <;> with_reducible rfl
  try simp only [Act.put, List.setIfInBounds_toArray, List.set_cons_zero, List.set_cons_succ]
  refine wpAnyS_take (i := 8) (v := ?_) rfl (by kernel_rfl) (fun _ _ _ h => h) (by rfl) hS ?_ ?_
  rotate_left
  · intro w' hS'
    (try dsimp only at hS')
    go_simp <;> with_reducible rfl
  try simp only [Act.put, List.setIfInBounds_toArray, List.set_cons_zero, List.set_cons_succ]
  refine wpAnyS_one (i := 9) rfl (by kernel_rfl) (by decide) (by rfl) fun K hK => ?_
  refine wp_app _ _ _ _ (by rfl) slN (.slice none 0 0) (by rfl) (World.ownsRow_nil _ _ _ _) (.slice an N.length cn) (by rfl) (SlAt.of_ints (HN1.out.fr ((Fr.refl _ Nil).drew) fun _ _ h => h)) (ints_one _) (by omega) ?_
  intro a2 c2 w2 ho2 hg2 hat2
  rw [Nat.zero_add] at ho2 hat2 ⊢
  have hF2 := (Fr.app0 (HF0.out.drew) hg2)
  have hB2 := HB.out.fr (Fr.app0 ((Fr.refl _ Nil).drew) hg2) (fun h => h)
  have hS2 : (fun w' : World => w'.cell? ⟨qb, 0, none⟩ = some (.slice an N.length cn) ∧ w'.cell? ⟨w.heap.size, 0, none⟩ = some (.slice none 0 0)) w2 := ⟨hF2.cell P0.out (fun h => h), hB2.cell 0⟩
  refine hK.out _ _ hS2 ?_
  clear hK K hS z0
  try simp only [Act.put, List.setIfInBounds_toArray, List.set_cons_zero, List.set_cons_succ]
  refine wpAnyS_take (i := 10) (v := ?_) rfl (by kernel_rfl) (fun _ _ _ h => h) (by rfl) hS2 ?_ ?_
  rotate_left
  · intro w' hS'
    (try dsimp only at hS')
    go_simp <;> with_reducible rfl
  try simp only [Act.put, List.setIfInBounds_toArray, List.set_cons_zero, List.set_cons_succ]
  refine wpAnyS_take (i := 11) (v := ?_) rfl (by kernel_rfl) (fun _ _ _ h => h) (by rfl) hS2 ?_ ?_
  rotate_left
  · intro w' hS'
    (try dsimp only at hS')
    go_simp <;> with_reducible rfl
  try simp only [Act.put, List.setIfInBounds_toArray, List.set_cons_zero, List.set_cons_succ]
  have HI := Lib.hid (CpInv.start HF0.out hB2 ho2 hat2 hF2 (by simp))
  have y0 := hB2.cell 0
  have y1 := hB2.free 0
  clear hS2 hF2 hB2 ho2 hg2 hat2 p0
  refine wpAnyS_last (i := 12) rfl (by kernel_rfl) (by decide) (by kernel_rfl) (by rfl) fun K hK => ?_
  go_simp
  refine hK.out _ _ ?_
  clear hK K y0 y1
  generalize w2.setCell ⟨w.heap.size, 0, none⟩ (.slice a2 N.length c2) = w3 at HI
  go_wp2_with fail
  go_loopw [4] (fun vi wr => ∃ (i : Nat) (al2 : Option Addr) (cl2 : Nat) (g' : List QRow), i ≤ g.length ∧ g'.length = i ∧ vi = .int .i64 i ∧ CpInv w wr N g' (.slice a2 N.length c2) (.slice al2 g'.length cl2) ∧ qrows g' = qrows (g.take i)) (fun vi _ => g.length - (intOf vi).toNat)
  case atStart => exact ⟨0, none, 0, [], by omega, rfl, rfl, HI.out, rfl⟩
  case round =>
    clear HI
    obtain ⟨i, al2, cl2, g', hi, hgi, rfl, hinv, hq⟩ := hrel
    have HI := Lib.hid hinv
    have HQ2 := Lib.hid hq
    have HGI := Lib.hid hgi
    have q1 := hinv.fr.cell (HR.out.root.cell 1) (fun h => h)
    have z1 := hinv.root.cell 1
    clear hinv hq hgi
    by_cases hlt : i < g.length
    · have hr := List.getElem?_eq_getElem hlt
      generalize g[i] = r at hr
      obtain ⟨b, off, cap2, hv, p0, p1, p2⟩ := (HR.out.l.fr0 HI.out.fr).cells hr
      simp only [Value.slice.injEq, true_and] at hv
      obtain ⟨rfl, rfl⟩ := hv
      have hci := (HR.out.l.fr0 HI.out.fr).cols r (List.mem_of_getElem? hr)
      obtain ⟨ac, cc, hcv⟩ := hci.shape
      rw [hcv] at p2 hci
      have HCI := Lib.hid hci
      have HRR := Lib.hid hr
      have HCV := Lib.hid hcv
      have HCL : Hid (r.cols.length ≤ 1000000) := HQ.out.cols r.mod (by rw [← HL.out]; exact List.mem_map.2 ⟨r, List.mem_of_getElem? hr, rfl⟩)
      have hlt2 : (i : Int) < (g.length : Int) := by omega
      clear hci hr hcv
      go_wp2_with fail
      refine wp_region_sink 36 (fun w' => w'.cell? ⟨qb, 1, none⟩ = some (.slice (some ⟨b, off, none⟩) g.length cl) ∧ w'.cell? ⟨w.heap.size, 1, none⟩ = some (.slice al2 g'.length cl2) ∧ w'.cell? ⟨b, off + i * 3, none⟩ = some (.int .i64 r.table) ∧ w'.cell? ⟨b, off + i * 3 + 1, none⟩ = some (.int .i64 r.key) ∧ w'.cell? ⟨b, off + i * 3 + 2, none⟩ = some (.slice ac r.cols.length cc)) (by kernel_rfl) ?_
      have hS : (fun w' : World => w'.cell? ⟨qb, 1, none⟩ = some (.slice (some ⟨b, off, none⟩) g.length cl) ∧ w'.cell? ⟨w.heap.size, 1, none⟩ = some (.slice al2 g'.length cl2) ∧ w'.cell? ⟨b, off + i * 3, none⟩ = some (.int .i64 r.table) ∧ w'.cell? ⟨b, off + i * 3 + 1, none⟩ = some (.int .i64 r.key) ∧ w'.cell? ⟨b, off + i * 3 + 2, none⟩ = some (.slice ac r.cols.length cc)) wr.drew := ⟨q1, z1, p0, p1, p2⟩
      refine wpAnyS_take (i := 0) (v := ?_) rfl (by kernel_rfl) (fun _ _ _ h => h) (by rfl) hS ?_ ?_
      rotate_left
      · intro w' hS'
        (try dsimp only at hS')
        go_simp <;> with_reducible rfl
      try simp only [Act.put, List.setIfInBounds_toArray, List.set_cons_zero, List.set_cons_succ]
      refine wpAnyS_take (i := 1) (v := ?_) rfl (by kernel_rfl) (fun _ _ _ h => h) (by rfl) hS ?_ ?_
      rotate_left
      · intro w' hS'
        (try dsimp only at hS')
        go_simp <;> with_reducible rfl
      try simp only [Act.put, List.setIfInBounds_toArray, List.set_cons_zero, List.set_cons_succ]
      refine wpAnyS_take (i := 2) (v := ?_) rfl (by kernel_rfl) (fun _ _ _ h => h) (by rfl) hS ?_ ?_
      rotate_left
      · intro w' hS'
        (try dsimp only at hS')
        go_simp <;> with_reducible rfl
      try simp only [Act.put, List.setIfInBounds_toArray, List.set_cons_zero, List.set_cons_succ]
      refine wpAnyS_take (i := 3) (v := ?_) rfl (by kernel_rfl) (fun _ _ _ h => h) (by rfl) hS ?_ ?_
      rotate_left
      · intro w' hS'
        (try dsimp only at hS')
        go_simp <;> with_reducible rfl
      try simp only [Act.put, List.setIfInBounds_toArray, List.set_cons_zero, List.set_cons_succ]
      refine wpAnyS_take (i := 4) (v := ?_) rfl (by kernel_rfl) (fun _ _ _ h => h) (by rfl) hS ?_ ?_
      rotate_left
      · intro w' hS'
        (try dsimp only at hS')
        go_simp <;> with_reducible rfl
      try simp only [Act.put, List.setIfInBounds_toArray, List.set_cons_zero, List.set_cons_succ]
      refine wpAnyS_take (i := 5) (v := ?_) rfl (by kernel_rfl) (fun _ _ _ h => h) (by rfl) hS ?_ ?_
      rotate_left
      · intro w' hS'
        (try dsimp only at hS')
        go_simp <;> with_reducible rfl
      try simp only [Act.put, List.setIfInBounds_toArray, List.set_cons_zero, List.set_cons_succ]
      refine wpAnyS_take (i := 6) (v := ?_) rfl (by kernel_rfl) (fun _ _ _ h => h) (by rfl) hS ?_ ?_
      rotate_left
      · intro w' hS'
        (try dsimp only at hS')
        go_simp <;> with_reducible rfl
      try simp only [Act.put, List.setIfInBounds_toArray, List.set_cons_zero, List.set_cons_succ]
      refine wpAnyS_take (i := 7) (v := ?_) rfl (by kernel_rfl) (fun _ _ _ h => h) (by rfl) hS ?_ ?_
      rotate_left
      · intro w' hS'
        (try dsimp only at hS')
        go_simp <;> with_reducible rfl
      try simp only [Act.put, List.setIfInBounds_toArray, List.set_cons_zero, List.set_cons_succ]
      refine wpAnyS_take (i := 8) (v := ?_) rfl (by kernel_rfl) (fun _ _ _ h => h) (by rfl) hS ?_ ?_
      rotate_left
      · intro w' hS'
        (try dsimp only at hS')
        go_simp <;> with_reducible rfl
      try simp only [Act.put, List.setIfInBounds_toArray, List.set_cons_zero, List.set_cons_succ]
      refine wpAnyS_take (i := 9) (v := ?_) rfl (by kernel_rfl) (fun _ _ _ h => h) (by rfl) hS ?_ ?_
      rotate_left
      · intro w' hS'
        (try dsimp only at hS')
        go_simp <;> with_reducible rfl
      try simp only [Act.put, List.setIfInBounds_toArray, List.set_cons_zero, List.set_cons_succ]
      refine wpAnyS_take (i := 10) (v := ?_) rfl (by kernel_rfl) (fun _ _ _ h => h) (by rfl) hS ?_ ?_
      rotate_left
      · intro w' hS'
        (try dsimp only at hS')
        go_simp <;> with_reducible rfl
      try simp only [Act.put, List.setIfInBounds_toArray, List.set_cons_zero, List.set_cons_succ]
      refine wpAnyS_take (i := 11) (v := ?_) rfl (by kernel_rfl) (fun _ _ _ h => h) (by rfl) hS ?_ ?_
      rotate_left
      · intro w' hS'
        (try dsimp only at hS')
        go_simp <;> with_reducible rfl
      try simp only [Act.put, List.setIfInBounds_toArray, List.set_cons_zero, List.set_cons_succ]
      refine wpAnyS_take (i := 12) (v := ?_) rfl (by kernel_rfl) (fun _ _ _ h => h) (by rfl) hS ?_ ?_
      rotate_left
      · intro w' hS'
        (try dsimp only at hS')
        go_simp <;> with_reducible rfl
      try simp only [Act.put, List.setIfInBounds_toArray, List.set_cons_zero, List.set_cons_succ]
      refine wpAnyS_take (i := 13) (v := ?_) rfl (by kernel_rfl) (fun _ _ _ h => h) (by rfl) hS ?_ ?_
      rotate_left
      · intro w' hS'
        (try dsimp only at hS')
        go_simp <;> with_reducible rfl
      try simp only [Act.put, List.setIfInBounds_toArray, List.set_cons_zero, List.set_cons_succ]
      refine wpAnyS_take (i := 14) (v := ?_) rfl (by kernel_rfl) (fun _ _ _ h => h) (by rfl) hS ?_ ?_
      rotate_left
      · intro w' hS'
        (try dsimp only at hS')
        go_simp <;> with_reducible rfl
      try simp only [Act.put, List.setIfInBounds_toArray, List.set_cons_zero, List.set_cons_succ]
      refine wpAnyS_take (i := 15) (v := ?_) rfl (by kernel_rfl) (fun _ _ _ h => h) (by rfl) hS ?_ ?_
      rotate_left
      · intro w' hS'
        (try dsimp only at hS')
        go_simp <;> with_reducible rfl
      try simp only [Act.put, List.setIfInBounds_toArray, List.set_cons_zero, List.set_cons_succ]
      refine wpAnyS_take (i := 16) (v := ?_) rfl (by kernel_rfl) (fun _ _ _ h => h) (by rfl) hS ?_ ?_
      rotate_left
      · intro w' hS'
        (try dsimp only at hS')
        go_simp <;> with_reducible rfl
      try simp only [Act.put, List.setIfInBounds_toArray, List.set_cons_zero, List.set_cons_succ]
      refine wpAnyS_take (i := 17) (v := ?_) rfl (by kernel_rfl) (fun _ _ _ h => h) (by rfl) hS ?_ ?_
      rotate_left
      · intro w' hS'
        (try dsimp only at hS')
        go_simp <;> with_reducible rfl
      try simp only [Act.put, List.setIfInBounds_toArray, List.set_cons_zero, List.set_cons_succ]
      refine wpAnyS_take (i := 18) (v := ?_) rfl (by kernel_rfl) (fun _ _ _ h => h) (by rfl) hS ?_ ?_
      rotate_left
      · intro w' hS'
        (try dsimp only at hS')
        go_simp <;> with_reducible rfl
      try simp only [Act.put, List.setIfInBounds_toArray, List.set_cons_zero, List.set_cons_succ]
      refine wpAnyS_take (i := 19) (v := ?_) rfl (by kernel_rfl) (fun _ _ _ h => h) (by rfl) hS ?_ ?_
      rotate_left
      · intro w' hS'
        (try dsimp only at hS')
        go_simp <;> with_reducible rfl
      try simp only [Act.put, List.setIfInBounds_toArray, List.set_cons_zero, List.set_cons_succ]
      refine wpAnyS_take (i := 20) (v := ?_) rfl (by kernel_rfl) (fun _ _ _ h => h) (by rfl) hS ?_ ?_
      rotate_left
      · intro w' hS'
        (try dsimp only at hS')
        go_simp <;> with_reducible rfl
      try simp only [Act.put, List.setIfInBounds_toArray, List.set_cons_zero, List.set_cons_succ]
      refine wpAnyS_take (i := 21) (v := ?_) rfl (by kernel_rfl) (fun _ _ _ h => h) (by rfl) hS ?_ ?_
      rotate_left
      · intro w' hS'
        (try dsimp only at hS')
        go_simp <;> with_reducible rfl
      try simp only [Act.put, List.setIfInBounds_toArray, List.set_cons_zero, List.set_cons_succ]
      refine wpAnyS_take (i := 22) (v := ?_) rfl (by kernel_rfl) (fun _ _ _ h => h) (by rfl) hS ?_ ?_
      rotate_left
      · intro w' hS'
        (try dsimp only at hS')
        go_simp <;> with_reducible rfl
      try simp only [Act.put, List.setIfInBounds_toArray, List.set_cons_zero, List.set_cons_succ]
      refine wpAnyS_take (i := 23) (v := ?_) rfl (by kernel_rfl) (fun _ _ _ h => h) (by rfl) hS ?_ ?_
      rotate_left
      · intro w' hS'
        (try dsimp only at hS')
        go_simp <;> with_reducible rfl
      try simp only [Act.put, List.setIfInBounds_toArray, List.set_cons_zero, List.set_cons_succ]
      refine wpAnyS_take (i := 24) (v := ?_) rfl (by kernel_rfl) (fun _ _ _ h => h) (by rfl) hS ?_ ?_
      rotate_left
      · intro w' hS'
        (try dsimp only at hS')
        go_simp <;> with_reducible rfl
      try simp only [Act.put, List.setIfInBounds_toArray, List.set_cons_zero, List.set_cons_succ]
      refine wpAnyS_take (i := 25) (v := ?_) rfl (by kernel_rfl) (fun _ _ _ h => h) (by rfl) hS ?_ ?_
      rotate_left
      · intro w' hS'
        (try dsimp only at hS')
        go_simp <;> with_reducible rfl
      try simp only [Act.put, List.setIfInBounds_toArray, List.set_cons_zero, List.set_cons_succ]
      refine wpAnyS_take (i := 26) (v := ?_) rfl (by kernel_rfl) (fun _ _ _ h => h) (by rfl) hS ?_ ?_
      rotate_left
      · intro w' hS'
        (try dsimp only at hS')
        go_simp <;> with_reducible rfl
      try simp only [Act.put, List.setIfInBounds_toArray, List.set_cons_zero, List.set_cons_succ]
      refine wpAnyS_take (i := 27) (v := ?_) rfl (by kernel_rfl) (fun _ _ _ h => h) (by rfl) hS ?_ ?_
      rotate_left
      · intro w' hS'
        (try dsimp only at hS')
        go_simp <;> with_reducible rfl
      try simp only [Act.put, List.setIfInBounds_toArray, List.set_cons_zero, List.set_cons_succ]
      refine wpAnyS_take (i := 28) (v := ?_) rfl (by kernel_rfl) (fun _ _ _ h => h) (by rfl) hS ?_ ?_
      rotate_left
      · intro w' hS'
        (try dsimp only at hS')
        go_simp <;> with_reducible rfl
      try simp only [Act.put, List.setIfInBounds_toArray, List.set_cons_zero, List.set_cons_succ]
      refine wpAnyS_take (i := 29) (v := ?_) rfl (by kernel_rfl) (fun _ _ _ h => h) (by rfl) hS ?_ ?_
      rotate_left
      · intro w' hS'
        (try dsimp only at hS')
        go_simp <;> with_reducible rfl
      try simp only [Act.put, List.setIfInBounds_toArray, List.set_cons_zero, List.set_cons_succ]
      refine wpAnyS_one (i := 30) rfl (by kernel_rfl) (by decide) (by rfl) fun K hK => ?_
      refine wp_app _ _ _ _ (by rfl) slI (.slice none 0 0) (by rfl) (World.ownsRow_nil _ _ _ _) (.slice ac r.cols.length cc) (by rfl) (SlAt.of_ints (HCI.out.fr ((Fr.refl _ Nil).drew) fun _ _ h => h)) (ints_one _) (by have := HCL.out; omega) ?_
      intro a3 c3 w4 ho3 hg3 hat3
      rw [Nat.zero_add] at ho3 hat3 ⊢
      have hC3 := Cloned.of_app rfl ho3 hg3 hat3
      have hF4 : Fr wr w4 Nil := (Fr.refl wr Nil).drew.trans0 hC3.2.2
      have hS4 : (fun w' : World => w'.cell? ⟨qb, 1, none⟩ = some (.slice (some ⟨b, off, none⟩) g.length cl) ∧ w'.cell? ⟨w.heap.size, 1, none⟩ = some (.slice al2 g'.length cl2) ∧ w'.cell? ⟨b, off + i * 3, none⟩ = some (.int .i64 r.table) ∧ w'.cell? ⟨b, off + i * 3 + 1, none⟩ = some (.int .i64 r.key) ∧ w'.cell? ⟨b, off + i * 3 + 2, none⟩ = some (.slice ac r.cols.length cc)) w4 := ⟨hF4.cell q1 (fun h => h), hF4.cell z1 (fun h => h), hF4.cell p0 (fun h => h), hF4.cell p1 (fun h => h), hF4.cell p2 (fun h => h)⟩
      refine hK.out _ _ hS4 ?_
      clear hK K hS
      simp only [Act.put, List.setIfInBounds_toArray, List.set_cons_zero, List.set_cons_succ]
      refine wpAnyS_take (i := 31) (v := ?_) rfl (by kernel_rfl) (fun _ _ _ h => h) (by rfl) hS4 ?_ ?_
      rotate_left
      · intro w' hS'
        (try dsimp only at hS')
        go_simp <;> with_reducible rfl
      try simp only [Act.put, List.setIfInBounds_toArray, List.set_cons_zero, List.set_cons_succ]
      refine wpAnyS_one (i := 32) rfl (by kernel_rfl) (by decide) (by rfl) fun K hK => ?_
      go_simp
      have hF5 : Fr wr (w4.alloc (Obj.cells #[Value.int .i64 r.table, .int .i64 r.key, .slice a3 r.cols.length c3] 159)) Nil := hF4.alloc _
      have hS5 : (fun w' : World => w'.cell? ⟨qb, 1, none⟩ = some (.slice (some ⟨b, off, none⟩) g.length cl) ∧ w'.cell? ⟨w.heap.size, 1, none⟩ = some (.slice al2 g'.length cl2) ∧ w'.cell? ⟨b, off + i * 3, none⟩ = some (.int .i64 r.table) ∧ w'.cell? ⟨b, off + i * 3 + 1, none⟩ = some (.int .i64 r.key) ∧ w'.cell? ⟨b, off + i * 3 + 2, none⟩ = some (.slice ac r.cols.length cc)) (w4.alloc (Obj.cells #[Value.int .i64 r.table, .int .i64 r.key, .slice a3 r.cols.length c3] 159)) := ⟨hF5.cell q1 (fun h => h), hF5.cell z1 (fun h => h), hF5.cell p0 (fun h => h), hF5.cell p1 (fun h => h), hF5.cell p2 (fun h => h)⟩
      refine hK.out _ _ hS5 ?_
      clear hK K hS4
      try simp only [Act.put, List.setIfInBounds_toArray, List.set_cons_zero, List.set_cons_succ]
      refine wpAnyS_one (i := 33) rfl (by kernel_rfl) (by decide) (by rfl) fun K hK => ?_
      have hsl := SlAt.of_block (Bk.new w4 159 #[Value.int .i64 r.table, .int .i64 r.key, .slice a3 r.cols.length c3])
      refine wp_app _ _ _ _ (by rfl) slQ (.slice al2 g'.length cl2) (by rfl) (hF5.own HI.out.l (fun _ _ h => h)) (.slice (some ⟨w4.heap.size, 0, none⟩) 1 1) (by rfl) hsl (one3 _ _ hC3) (by have := HGI.out; omega) ?_
      intro al4 cl4 w6 ho6 hg6 hat6
      have hB6 := (HI.out.root.fr hF5 (fun h => h)).fr ((Fr.refl _ (fun j => (Value.slice al2 g'.length cl2).ownBlock = some j)).grown hg6 fun j hj _ => hj) (fun h => by have := (HI.out.nl _ h).1; omega)
      have hF6 : Fr w w6 Nil := Fr.app (HI.out.fr.trans0 hF5) hg6 (fun j hj => Nat.le_of_lt (HI.out.nl j hj).1)
      have hQ := (HR.out.l.fr0 hF6).cells HRR.out
      obtain ⟨bb, oo, cq, he1, t0, t1, t2⟩ := hQ
      simp only [Value.slice.injEq, Option.some.injEq, Addr.mk.injEq, true_and, and_true] at he1
      obtain ⟨⟨rfl, rfl⟩, rfl⟩ := he1
      rw [HCV.out] at t2
      have hS6 : (fun w' : World => w'.cell? ⟨qb, 1, none⟩ = some (.slice (some ⟨b, off, none⟩) g.length cl) ∧ w'.cell? ⟨w.heap.size, 1, none⟩ = some (.slice al2 g'.length cl2) ∧ w'.cell? ⟨b, off + i * 3, none⟩ = some (.int .i64 r.table) ∧ w'.cell? ⟨b, off + i * 3 + 1, none⟩ = some (.int .i64 r.key) ∧ w'.cell? ⟨b, off + i * 3 + 2, none⟩ = some (.slice ac r.cols.length cc)) w6 := ⟨hF6.cell (HR.out.root.cell 1) (fun h => h), hB6.cell 1, t0, t1, t2⟩
      refine hK.out _ _ hS6 ?_
      clear hK K hS5 t0 t1 t2
      try simp only [Act.put, List.setIfInBounds_toArray, List.set_cons_zero, List.set_cons_succ]
      refine wpAnyS_take (i := 34) (v := ?_) rfl (by kernel_rfl) (fun _ _ _ h => h) (by rfl) hS6 ?_ ?_
      rotate_left
      · intro w' hS'
        (try dsimp only at hS')
        go_simp <;> with_reducible rfl
      try simp only [Act.put, List.setIfInBounds_toArray, List.set_cons_zero, List.set_cons_succ]
      refine wpAnyS_take (i := 35) (v := ?_) rfl (by kernel_rfl) (fun _ _ _ h => h) (by rfl) hS6 ?_ ?_
      rotate_left
      · intro w' hS'
        (try dsimp only at hS')
        go_simp <;> with_reducible rfl
      try simp only [Act.put, List.setIfInBounds_toArray, List.set_cons_zero, List.set_cons_succ]
      have HI2 := Lib.hid (HI.out.next hC3 ho6 hg6 hat6)
      have y0 := hB6.cell 1
      have y1 := hB6.free 1
      have HN := Lib.hid (qrows_snoc HQ2.out HRR.out (.slice a3 r.cols.length c3))
      clear hS6 hB6 hsl ho6 hg6 hat6 hF6 hF5 hF4 hC3 ho3 hg3 hat3 HI
      refine wpAnyS_last (i := 36) rfl (by kernel_rfl) (by decide) (by kernel_rfl) (by rfl) fun K hK => ?_
      go_simp
      refine hK.out _ _ ?_
      clear hK K y0 y1
      go_wp2_with fail
      go_roundw
      case rel => exact ⟨i + 1, al4, cl4, _, by omega, by have := HGI.out; simp; omega, by go_num, HI2.out, HN.out.symm⟩
      case measure => simp [intOf]; omega
    · have HIL : Hid (i = g.length) := (by omega : i = g.length)
      go_wp2_with fail
      go_ret
      refine ⟨w.heap.size, fun k => w.heap.size ≤ k ∧ k < wr.heap.size, rfl, ⟨_, _, g', ⟨HI.out.root, HI.out.n.at, ⟨(SlAt.of_own HI.out.l).1, fun r hr => (HI.out.c r hr).at⟩, (SlAt.of_own HI.out.l).2, ⟨Nat.le_refl _, HI.out.root.lt⟩, ?_, ?_, ?_, fun k hk => hk.2⟩, ?_⟩, fun k hk => hk.1, HI.out.fr⟩
      · intro k hk; have := HI.out.nn k hk; have := HI.out.n.lt k hk; exact ⟨⟨by omega, this⟩, by omega⟩
      · intro k hk; have := (HI.out.nl k hk).1; have := (World.ownsRow.lt HI.out.l k hk).2; exact ⟨⟨by omega, this⟩, by omega⟩
      · intro r hr k hk; have := HI.out.nc r hr k hk; have := (HI.out.c r hr).lt k hk; exact ⟨⟨by omega, this⟩, by omega⟩
      · have h1 := HQ2.out
        rw [HIL.out, List.take_length, HL.out] at h1
        exact h1
end Go.Proofs.Ytjpenaodkfljhaa
