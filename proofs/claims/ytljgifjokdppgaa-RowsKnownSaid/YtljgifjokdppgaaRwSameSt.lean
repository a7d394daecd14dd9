/-
  The state of the law RowsSame, and what a call of does, or a Put, makes of it.
  No condition but sizes.
-/
import Derived.Test.YtljgifjokdppgaaRwSameLaw
namespace Go.Proofs.Ytljgifjokdppgaa
open Go Go.RowKit

structure St (w0 w : World) (r m s n b : Nat) (cols : List Int) (M1 M2 B : List MTab) (k1 k2 k3 : Nat) : Prop where
  tri : TriE w0 w r m s n b M1 M2 B
  g1 : Good M1
  g2 : Good M2
  g3 : Good B
  f1 : Few k1 M1
  f2 : Few k2 M2
  f3 : Few k3 B
  c1 : colsOf M1 = colsOf (newMod cols)
  c2 : colsOf M2 = colsOf (newMod cols)
  c3 : colsOf B = colsOf (newMod cols)
theorem Few.le {a b : Nat} {M : List MTab} (h : Few a M) (hab : a ≤ b) : Few b M := fun T hT => Nat.le_trans (h T hT) hab
theorem TriE.fr0 {w0 w w' : World} {r m s n b : Nat} {M1 M2 B : List MTab} (h : TriE w0 w r m s n b M1 M2 B) (hf : Fr w w' Nil) : TriE w0 w' r m s n b M1 M2 B := by
  obtain ⟨S1, T1, S2, T2, S3, h⟩ := h
  exact ⟨S1, T1, S2, T2, S3, h.fr0 hf⟩
theorem TriE.fr {w0 w : World} {r m s n b : Nat} {M1 M2 B : List MTab} (h : TriE w0 w r m s n b M1 M2 B) : Fr w0 w Nil := by
  obtain ⟨S1, T1, S2, T2, S3, h⟩ := h
  exact Tri.fr h
theorem St.fr0 {w0 w w' : World} {r m s n b : Nat} {cols : List Int} {M1 M2 B : List MTab} {k1 k2 k3 : Nat} (h : St w0 w r m s n b cols M1 M2 B k1 k2 k3) (hf : Fr w w' Nil) : St w0 w' r m s n b cols M1 M2 B k1 k2 k3 :=
  ⟨h.tri.fr0 hf, h.g1, h.g2, h.g3, h.f1, h.f2, h.f3, h.c1, h.c2, h.c3⟩
theorem St.le {w0 w : World} {r m s n b : Nat} {cols : List Int} {M1 M2 B : List MTab} {k1 k2 k3 j1 j2 j3 : Nat} (h : St w0 w r m s n b cols M1 M2 B k1 k2 k3) (h1 : k1 ≤ j1) (h2 : k2 ≤ j2) (h3 : k3 ≤ j3) : St w0 w r m s n b cols M1 M2 B j1 j2 j3 :=
  ⟨h.tri, h.g1, h.g2, h.g3, h.f1.le h1, h.f2.le h2, h.f3.le h3, h.c1, h.c2, h.c3⟩
def msteps (M : List MTab) (l : List CallD) : List MTab := l.foldl mstep M
theorem msteps_next {M : List MTab} {l : List CallD} {k : Nat} {c : CallD} (h : l[k]? = some c) : msteps M (l.take (k + 1)) = mstep (msteps M (l.take k)) c := by
  unfold msteps
  rw [List.take_add_one, h, List.foldl_append]
  rfl
theorem St.does1 {w0 w : World} {r m s n b : Nat} {cols : List Int} {M1 M2 B : List MTab} {k1 k2 k3 : Nat} (h : St w0 w r m s n b cols M1 M2 B k1 k2 k3) (hk : k1 < 1000) {bb o : Nat} (c : CallD) (hc : CallAt w0 bb o c) (hl : c.cols.length ≤ 2000) :
    Calls Try.prog 21 #[.pointer (some ⟨r, 0, none⟩), .pointer (some ⟨m, 0, none⟩), .agg #[.int .u8 c.kind, .int .i64 c.table, .int .i64 c.key, .int .i64 c.col, .int .i64 c.n, c.cv]] w fun e w' =>
      e = .returned (.bool true) ∧ St w0 w' r m s n b cols (mstep M1 c) M2 B (k1 + 1) k2 k3 := by
  obtain ⟨S1, T1, S2, T2, S3, ht⟩ := h.tri
  refine (does_any c w ht.x h.g1 h.f1 hk (hc.cols.fr ht.fr fun _ _ h => h) (fun hx k hk => ?_) (by omega) hc.u8).mono fun e w' ⟨he, hu⟩ => ⟨he, ht.upd1 hu, (good_step h.g1 h.f1 (by omega) c).1, h.g2, h.g3, (good_step h.g1 h.f1 (by omega) c).2, h.f2, h.f3, (cols_step _ _).trans h.c1, h.c2, h.c3⟩
  have := hc.cols.lt hx k hk
  exact ⟨fun hs => by have := ht.o1 k (.inl hs); omega, fun hs => by have := ht.o1 k (.inr hs); omega⟩
theorem St.does2 {w0 w : World} {r m s n b : Nat} {cols : List Int} {M1 M2 B : List MTab} {k1 k2 k3 : Nat} (h : St w0 w r m s n b cols M1 M2 B k1 k2 k3) (hk : k2 < 1000) {bb o : Nat} (c : CallD) (hc : CallAt w0 bb o c) (hl : c.cols.length ≤ 2000) :
    Calls Try.prog 21 #[.pointer (some ⟨s, 0, none⟩), .pointer (some ⟨n, 0, none⟩), .agg #[.int .u8 c.kind, .int .i64 c.table, .int .i64 c.key, .int .i64 c.col, .int .i64 c.n, c.cv]] w fun e w' =>
      e = .returned (.bool true) ∧ St w0 w' r m s n b cols M1 (mstep M2 c) B k1 (k2 + 1) k3 := by
  obtain ⟨S1, T1, S2, T2, S3, ht⟩ := h.tri
  refine (does_any c w ht.y h.g2 h.f2 hk (hc.cols.fr ht.fr fun _ _ h => h) (fun hx k hk => ?_) (by omega) hc.u8).mono fun e w' ⟨he, hu⟩ => ⟨he, ht.upd2 hu, h.g1, (good_step h.g2 h.f2 (by omega) c).1, h.g3, h.f1, (good_step h.g2 h.f2 (by omega) c).2, h.f3, h.c1, (cols_step _ _).trans h.c2, h.c3⟩
  have := hc.cols.lt hx k hk
  exact ⟨fun hs => by have := ht.o2 k (.inl hs); omega, fun hs => by have := ht.o2 k (.inr hs); omega⟩

/-- The state, and the list of one table's rows, in memory of its own; of B is got what lies behind row i. -/
def StL (w0 w : World) (r m s n b : Nat) (cols : List Int) (M1 M2 B : List MTab) (k1 k2 k3 t i : Nat) (lv : Value) (g : List GRow) : Prop :=
  St w0 w r m s n b cols M1 M2 B k1 k2 k3 ∧ Filled M1 B t ((mtab M1 t).2.drop i) ∧ rowsOf g = (mtab M1 t).2 ∧ RL w lv g ∧ ∃ S1 T1 S2 T2 S3, Tri w0 w r m s n b M1 M2 B S1 T1 S2 T2 S3 ∧ ∀ k ∈ rlBlocks lv g, ¬ S3 k
theorem StL.start {w0 w w' : World} {r m s n b : Nat} {cols : List Int} {M1 M2 B : List MTab} {k1 k2 k3 t : Nat} {lv : Value} {g : List GRow} (h : St w0 w r m s n b cols M1 M2 B k1 k2 k3) (hF : Filled M1 B t []) (hl : NewRL w.heap.size w' lv g) (hg : rowsOf g = (mtab M1 t).2) (hf : Fr w w' Nil) : StL w0 w' r m s n b cols M1 M2 B k1 k2 k3 t g.length lv g := by
  obtain ⟨S1, T1, S2, T2, S3, ht⟩ := h.tri
  refine ⟨h.fr0 hf, ?_, hg, hl.rl, S1, T1, S2, T2, S3, ht.fr0 hf, fun k hk hs => ?_⟩
  · have : (mtab M1 t).2.length = g.length := by rw [← hg]; simp [rowsOf]
    rw [List.drop_eq_nil_of_le (by omega)]
    exact hF
  · have := hl.new k hk; have := ht.z.lt k hs; omega
theorem StL.fr0 {w0 w w' : World} {r m s n b : Nat} {cols : List Int} {M1 M2 B : List MTab} {k1 k2 k3 t i : Nat} {lv : Value} {g : List GRow} (h : StL w0 w r m s n b cols M1 M2 B k1 k2 k3 t i lv g) (hf : Fr w w' Nil) : StL w0 w' r m s n b cols M1 M2 B k1 k2 k3 t i lv g := by
  obtain ⟨h1, h2, h3, h4, S1, T1, S2, T2, S3, h5, h6⟩ := h
  exact ⟨h1.fr0 hf, h2, h3, h4.fr hf fun _ _ h => h, S1, T1, S2, T2, S3, h5.fr0 hf, h6⟩
theorem mtab_col_eq {M B : List MTab} (h : colsOf B = colsOf M) (t : Nat) : (mtab B t).1 = (mtab M t).1 := by rw [mtab_cols, mtab_cols, h]
theorem StL.put {w0 w : World} {r m s n b : Nat} {cols : List Int} {M1 M2 B : List MTab} {k1 k2 k3 t i : Nat} {lv : Value} {g : List GRow} {row : GRow} (h : StL w0 w r m s n b cols M1 M2 B k1 k2 k3 t (i + 1) lv g) (hk : k3 < 1000000) (hr : g[i]? = some row) :
    Calls Try.prog 13 #[rptr b, .int .i64 t, .int .i64 row.key, row.cv] w fun e w' => e = .returned (.int .i64 0) ∧ (∃ B', StL w0 w' r m s n b cols M1 M2 B' k1 k2 (k3 + 1) t i lv g) ∧ ∀ b' o' x, b' ∈ rlBlocks lv g → w.cell? ⟨b', o', none⟩ = some x → w'.cell? ⟨b', o', none⟩ = some x := by
  obtain ⟨h1, h2, h3, h4, S1, T1, S2, T2, S3, h5, h6⟩ := h
  have hmem := List.mem_of_getElem? hr
  have ho := h4.cols row hmem
  have hmr : (row.key, row.cols) ∈ (mtab M1 t).2 := by rw [← h3]; exact List.mem_map.2 ⟨row, hmem, rfl⟩
  have hne : (mtab M1 t).1 ≠ 0 := by
    intro e
    have : (mtab M1 t).2 = [] := by
      unfold mtab at e ⊢
      split at e
      · rename_i h0
        rw [if_pos h0]
        cases hi : M1[(t : Int).toNat]? with
        | none => rfl
        | some T =>
          rw [hi] at e
          have := (h1.g1.tabs T (List.mem_of_getElem? hi)).2
          have e : T.1 = 0 := e
          omega
      · rename_i h0
        rw [if_neg h0]
    rw [this] at hmr
    cases hmr
  have hw := (h1.g1.tabs _ (mtab_mem hne)).1
  have hwid := hw.width _ hmr
  have hcl : row.cols.length ≤ 1000000 := by
    have := hw.le
    have e : row.cols.length = (mtab M1 t).1 := hwid
    omega
  have hok : (mput B t row.key row.cols).2 = 0 := by
    unfold mput
    rw [if_neg]
    rw [mtab_col_eq (h1.c3.trans h1.c1.symm) t]
    rintro (e | e)
    · exact hne e
    · exact e hwid
  refine (api_put t row.key row.cv row.cols h5.z h1.g3 ho.at hcl).mono fun e w' ⟨he, S', hS1, hS2, hS3⟩ => ?_
  rw [hok] at he
  have hfr : ∀ k ∈ rlBlocks lv g, ¬ S3 k := h6
  have hL := h4.fr hS3 hfr
  refine ⟨he, ⟨(mput B t row.key row.cols).1, ?_⟩, fun b' o' x hb hx => hS3.cell hx (h6 b' hb)⟩
  have hu : UpdS w b S3 (mput B t row.key row.cols).1 w' := ⟨S', hS1, hS2, hS3⟩
  have hT : Tri w0 w' r m s n b M1 M2 (mput B t row.key row.cols).1 S1 T1 S2 T2 S' := h5.upd3s hS1 hS2 hS3
  have hgp := good_put h1.g3 h1.f3 hk t row.key row.cols
  refine ⟨⟨⟨_, _, _, _, _, hT⟩, h1.g1, h1.g2, hgp.1, h1.f1, h1.f2, hgp.2, h1.c1, h1.c2, (cols_put _ _ _ _).trans h1.c3⟩, ?_, h3, hL, S1, T1, S2, T2, S', hT, fun k hk hs => ?_⟩
  · have hd : (mtab M1 t).2.drop i = (row.key, row.cols) :: (mtab M1 t).2.drop (i + 1) := by
      have hi : (mtab M1 t).2[i]? = some (row.key, row.cols) := by rw [← h3]; simp [rowsOf, hr]
      obtain ⟨hlt, e⟩ := List.getElem?_eq_some_iff.1 hi
      rw [List.drop_eq_getElem_cons hlt, e]
    rw [hd]
    exact filled_put (r := (row.key, row.cols)) h2 hok
  · rcases hS2 k hs with hs | hs
    · exact h6 k hk hs
    · have := h4.lt k hk; omega
end Go.Proofs.Ytljgifjokdppgaa
