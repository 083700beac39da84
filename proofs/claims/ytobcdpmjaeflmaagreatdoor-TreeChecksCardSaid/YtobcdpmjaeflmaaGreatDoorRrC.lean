/- Contracts of the reference's printers of trees: pick, node. -/
import Derived.Test.YtobcdpmjaeflmaaGreatDoorRrB
set_option linter.unusedVariables false
set_option linter.unusedSimpArgs false
namespace Go.Proofs.Tryz
open Go Go.Al
set_option maxRecDepth 20000
set_option linter.unusedVariables false
theorem rnode32_ok (t : List Al.Node) (T : Int → List Bytes) (nm : Bytes) (num : Int) (ks : List Int) (fr to : Int) (i : Int) (h0i : 0 ≤ i) (hx : t[i.toNat]? = some ⟨32, nm, num, ks, fr, to⟩) : PutsR t 26 [I i] ([[40], [41]]) := by
  have hrow : lat (List.map rNode t) i.toNat = some (rNode ⟨32, nm, num, ks, fr, to⟩) := by rw [lat_eq, List.getElem?_map, hx]; rfl
  have hlt := (List.getElem?_eq_some_iff.1 hx).1
  refine PutsR.of fun s hb => ?_
  try simp only [wt_append, wt_cons, wt_nil, List.length_cons, List.length_nil] at hb
  refine .run ttab_ok func26 rfl (by kernel_rfl) (by simp [f26]) rfl ?_
  conv => whnf
  repeat' first
    | (refine AllRow.of hrow ?_; conv => whnf)
    | (intro h; exfalso; revert h; simp; done)
    | (intro _; conv => whnf)
    | (apply And.intro <;> (conv => whnf))
    | (refine AllRow.of rfl ?_; conv => whnf)
    | (apply AllRow.map; intro _ _; conv => whnf)
    | (refine CallG.lend call53 [0] (by simp) (by simp) (by simp [isArr, pinsOf, rrR]) (rput_ok t _ _ (by first | omega | (simp only [wt_append, wt_cons, wt_nil, List.length_cons, List.length_nil]; omega) | ((try simp only [putAll_putAll]); refine Nat.le_trans (Nat.add_le_add_right (putAll_len _ _) _) ?_; (try simp only [wt_append, wt_cons, wt_nil, List.length_append, List.length_cons, List.length_nil]); omega))) ?_; rintro _ _ ⟨rfl, rfl⟩; refine ⟨by simp [rrR], ?_⟩; conv => whnf)
    | (refine CallG.con call35 rfl (rType_ok _) ?_; conv => whnf)
    | (refine CallQG.con call35 rfl (rType_ok _) ?_; conv => whnf)
    | (refine CallG.con call51 rfl (rStmt_ok _) ?_; conv => whnf)
    | (refine CallQG.con call51 rfl (rStmt_ok _) ?_; conv => whnf)
    | exact ⟨rfl⟩
    | fail
  all_goals try (refine Side.mk ?_; first | omega | (simp; done) | (intro row hr; obtain ⟨_, _, rfl⟩ := List.mem_map.1 hr; rfl) | (simp only [List.length_map, List.length_cons, List.length_nil]; omega) | (dsimp only; simp only [List.length_map, List.length_cons, List.length_nil]; omega))
  all_goals try (exfalso; omega)
  all_goals try (exfalso; dsimp only at *; omega)
  all_goals exact FinRr.mk' (by simp [putAll_putAll, putAll_nil])
theorem rnode33_ok (t : List Al.Node) (T : Int → List Bytes) (nm : Bytes) (num : Int) (ks : List Int) (fr to : Int) (i : Int) (h0i : 0 ≤ i) (hx : t[i.toNat]? = some ⟨33, nm, num, ks, fr, to⟩) : PutsR t 26 [I i] ([nm]) := by
  have hrow : lat (List.map rNode t) i.toNat = some (rNode ⟨33, nm, num, ks, fr, to⟩) := by rw [lat_eq, List.getElem?_map, hx]; rfl
  have hlt := (List.getElem?_eq_some_iff.1 hx).1
  refine PutsR.of fun s hb => ?_
  try simp only [wt_append, wt_cons, wt_nil, List.length_cons, List.length_nil] at hb
  refine .run ttab_ok func26 rfl (by kernel_rfl) (by simp [f26]) rfl ?_
  conv => whnf
  repeat' first
    | (refine AllRow.of hrow ?_; conv => whnf)
    | (intro h; exfalso; revert h; simp; done)
    | (intro _; conv => whnf)
    | (apply And.intro <;> (conv => whnf))
    | (refine AllRow.of rfl ?_; conv => whnf)
    | (apply AllRow.map; intro _ _; conv => whnf)
    | (refine CallG.lend call53 [0] (by simp) (by simp) (by simp [isArr, pinsOf, rrR]) (rput_ok t _ _ (by first | omega | (simp only [wt_append, wt_cons, wt_nil, List.length_cons, List.length_nil]; omega) | ((try simp only [putAll_putAll]); refine Nat.le_trans (Nat.add_le_add_right (putAll_len _ _) _) ?_; (try simp only [wt_append, wt_cons, wt_nil, List.length_append, List.length_cons, List.length_nil]); omega))) ?_; rintro _ _ ⟨rfl, rfl⟩; refine ⟨by simp [rrR], ?_⟩; conv => whnf)
    | (refine CallG.con call35 rfl (rType_ok _) ?_; conv => whnf)
    | (refine CallQG.con call35 rfl (rType_ok _) ?_; conv => whnf)
    | (refine CallG.con call51 rfl (rStmt_ok _) ?_; conv => whnf)
    | (refine CallQG.con call51 rfl (rStmt_ok _) ?_; conv => whnf)
    | exact ⟨rfl⟩
    | fail
  all_goals try (refine Side.mk ?_; first | omega | (simp; done) | (intro row hr; obtain ⟨_, _, rfl⟩ := List.mem_map.1 hr; rfl) | (simp only [List.length_map, List.length_cons, List.length_nil]; omega) | (dsimp only; simp only [List.length_map, List.length_cons, List.length_nil]; omega))
  all_goals try (exfalso; omega)
  all_goals try (exfalso; dsimp only at *; omega)
  all_goals exact FinRr.mk' (by simp [putAll_putAll, putAll_nil])
theorem rnode51_ok (t : List Al.Node) (T : Int → List Bytes) (nm : Bytes) (num : Int) (ks : List Int) (fr to : Int) (i : Int) (h0i : 0 ≤ i) (hx : t[i.toNat]? = some ⟨51, nm, num, ks, fr, to⟩) : PutsR t 26 [I i] ([nm]) := by
  have hrow : lat (List.map rNode t) i.toNat = some (rNode ⟨51, nm, num, ks, fr, to⟩) := by rw [lat_eq, List.getElem?_map, hx]; rfl
  have hlt := (List.getElem?_eq_some_iff.1 hx).1
  refine PutsR.of fun s hb => ?_
  try simp only [wt_append, wt_cons, wt_nil, List.length_cons, List.length_nil] at hb
  refine .run ttab_ok func26 rfl (by kernel_rfl) (by simp [f26]) rfl ?_
  conv => whnf
  repeat' first
    | (refine AllRow.of hrow ?_; conv => whnf)
    | (intro h; exfalso; revert h; simp; done)
    | (intro _; conv => whnf)
    | (apply And.intro <;> (conv => whnf))
    | (refine AllRow.of rfl ?_; conv => whnf)
    | (apply AllRow.map; intro _ _; conv => whnf)
    | (refine CallG.lend call53 [0] (by simp) (by simp) (by simp [isArr, pinsOf, rrR]) (rput_ok t _ _ (by first | omega | (simp only [wt_append, wt_cons, wt_nil, List.length_cons, List.length_nil]; omega) | ((try simp only [putAll_putAll]); refine Nat.le_trans (Nat.add_le_add_right (putAll_len _ _) _) ?_; (try simp only [wt_append, wt_cons, wt_nil, List.length_append, List.length_cons, List.length_nil]); omega))) ?_; rintro _ _ ⟨rfl, rfl⟩; refine ⟨by simp [rrR], ?_⟩; conv => whnf)
    | (refine CallG.con call35 rfl (rType_ok _) ?_; conv => whnf)
    | (refine CallQG.con call35 rfl (rType_ok _) ?_; conv => whnf)
    | (refine CallG.con call51 rfl (rStmt_ok _) ?_; conv => whnf)
    | (refine CallQG.con call51 rfl (rStmt_ok _) ?_; conv => whnf)
    | exact ⟨rfl⟩
    | fail
  all_goals try (refine Side.mk ?_; first | omega | (simp; done) | (intro row hr; obtain ⟨_, _, rfl⟩ := List.mem_map.1 hr; rfl) | (simp only [List.length_map, List.length_cons, List.length_nil]; omega) | (dsimp only; simp only [List.length_map, List.length_cons, List.length_nil]; omega))
  all_goals try (exfalso; omega)
  all_goals try (exfalso; dsimp only at *; omega)
  all_goals exact FinRr.mk' (by simp [putAll_putAll, putAll_nil])
theorem rnode50_ok (t : List Al.Node) (T : Int → List Bytes) (nm : Bytes) (num : Int) (ks : List Int) (fr to : Int) (i : Int) (h0i : 0 ≤ i) (hx : t[i.toNat]? = some ⟨50, nm, num, ks, fr, to⟩) : PutsR t 26 [I i] ([[95]]) := by
  have hrow : lat (List.map rNode t) i.toNat = some (rNode ⟨50, nm, num, ks, fr, to⟩) := by rw [lat_eq, List.getElem?_map, hx]; rfl
  have hlt := (List.getElem?_eq_some_iff.1 hx).1
  refine PutsR.of fun s hb => ?_
  try simp only [wt_append, wt_cons, wt_nil, List.length_cons, List.length_nil] at hb
  refine .run ttab_ok func26 rfl (by kernel_rfl) (by simp [f26]) rfl ?_
  conv => whnf
  repeat' first
    | (refine AllRow.of hrow ?_; conv => whnf)
    | (intro h; exfalso; revert h; simp; done)
    | (intro _; conv => whnf)
    | (apply And.intro <;> (conv => whnf))
    | (refine AllRow.of rfl ?_; conv => whnf)
    | (apply AllRow.map; intro _ _; conv => whnf)
    | (refine CallG.lend call53 [0] (by simp) (by simp) (by simp [isArr, pinsOf, rrR]) (rput_ok t _ _ (by first | omega | (simp only [wt_append, wt_cons, wt_nil, List.length_cons, List.length_nil]; omega) | ((try simp only [putAll_putAll]); refine Nat.le_trans (Nat.add_le_add_right (putAll_len _ _) _) ?_; (try simp only [wt_append, wt_cons, wt_nil, List.length_append, List.length_cons, List.length_nil]); omega))) ?_; rintro _ _ ⟨rfl, rfl⟩; refine ⟨by simp [rrR], ?_⟩; conv => whnf)
    | (refine CallG.con call35 rfl (rType_ok _) ?_; conv => whnf)
    | (refine CallQG.con call35 rfl (rType_ok _) ?_; conv => whnf)
    | (refine CallG.con call51 rfl (rStmt_ok _) ?_; conv => whnf)
    | (refine CallQG.con call51 rfl (rStmt_ok _) ?_; conv => whnf)
    | exact ⟨rfl⟩
    | fail
  all_goals try (refine Side.mk ?_; first | omega | (simp; done) | (intro row hr; obtain ⟨_, _, rfl⟩ := List.mem_map.1 hr; rfl) | (simp only [List.length_map, List.length_cons, List.length_nil]; omega) | (dsimp only; simp only [List.length_map, List.length_cons, List.length_nil]; omega))
  all_goals try (exfalso; omega)
  all_goals try (exfalso; dsimp only at *; omega)
  all_goals exact FinRr.mk' (by simp [putAll_putAll, putAll_nil])
theorem rnode31a_ok (t : List Al.Node) (T : Int → List Bytes) (nm : Bytes) (ks : List Int) (fr to : Int) (i : Int) (h0i : 0 ≤ i) (hx : t[i.toNat]? = some ⟨31, nm, 1, ks, fr, to⟩) : PutsR t 26 [I i] ([[116, 114, 117, 101]]) := by
  have hrow : lat (List.map rNode t) i.toNat = some (rNode ⟨31, nm, 1, ks, fr, to⟩) := by rw [lat_eq, List.getElem?_map, hx]; rfl
  have hlt := (List.getElem?_eq_some_iff.1 hx).1
  refine PutsR.of fun s hb => ?_
  try simp only [wt_append, wt_cons, wt_nil, List.length_cons, List.length_nil] at hb
  refine .run ttab_ok func26 rfl (by kernel_rfl) (by simp [f26]) rfl ?_
  conv => whnf
  repeat' first
    | (refine AllRow.of hrow ?_; conv => whnf)
    | (intro h; exfalso; revert h; simp; done)
    | (intro _; conv => whnf)
    | (apply And.intro <;> (conv => whnf))
    | (refine AllRow.of rfl ?_; conv => whnf)
    | (apply AllRow.map; intro _ _; conv => whnf)
    | (refine CallG.lend call53 [0] (by simp) (by simp) (by simp [isArr, pinsOf, rrR]) (rput_ok t _ _ (by first | omega | (simp only [wt_append, wt_cons, wt_nil, List.length_cons, List.length_nil]; omega) | ((try simp only [putAll_putAll]); refine Nat.le_trans (Nat.add_le_add_right (putAll_len _ _) _) ?_; (try simp only [wt_append, wt_cons, wt_nil, List.length_append, List.length_cons, List.length_nil]); omega))) ?_; rintro _ _ ⟨rfl, rfl⟩; refine ⟨by simp [rrR], ?_⟩; conv => whnf)
    | (refine CallG.con call35 rfl (rType_ok _) ?_; conv => whnf)
    | (refine CallQG.con call35 rfl (rType_ok _) ?_; conv => whnf)
    | (refine CallG.con call51 rfl (rStmt_ok _) ?_; conv => whnf)
    | (refine CallQG.con call51 rfl (rStmt_ok _) ?_; conv => whnf)
    | exact ⟨rfl⟩
    | fail
  all_goals try (refine Side.mk ?_; first | omega | (simp; done) | (intro row hr; obtain ⟨_, _, rfl⟩ := List.mem_map.1 hr; rfl) | (simp only [List.length_map, List.length_cons, List.length_nil]; omega) | (dsimp only; simp only [List.length_map, List.length_cons, List.length_nil]; omega))
  all_goals try (exfalso; omega)
  all_goals try (exfalso; dsimp only at *; omega)
  all_goals exact FinRr.mk' (by simp [putAll_putAll, putAll_nil])
theorem rnode31b_ok (t : List Al.Node) (T : Int → List Bytes) (nm : Bytes) (num : Int) (hnum : num ≠ 1) (ks : List Int) (fr to : Int) (i : Int) (h0i : 0 ≤ i) (hx : t[i.toNat]? = some ⟨31, nm, num, ks, fr, to⟩) : PutsR t 26 [I i] ([[102, 97, 108, 115, 101]]) := by
  have hrow : lat (List.map rNode t) i.toNat = some (rNode ⟨31, nm, num, ks, fr, to⟩) := by rw [lat_eq, List.getElem?_map, hx]; rfl
  have hlt := (List.getElem?_eq_some_iff.1 hx).1
  refine PutsR.of fun s hb => ?_
  try simp only [wt_append, wt_cons, wt_nil, List.length_cons, List.length_nil] at hb
  refine .run ttab_ok func26 rfl (by kernel_rfl) (by simp [f26]) rfl ?_
  conv => whnf
  repeat' first
    | (refine AllRow.of hrow ?_; conv => whnf)
    | (intro h; exfalso; revert h; simp; done)
    | (intro _; conv => whnf)
    | (apply And.intro <;> (conv => whnf))
    | (refine AllRow.of rfl ?_; conv => whnf)
    | (apply AllRow.map; intro _ _; conv => whnf)
    | (refine CallG.lend call53 [0] (by simp) (by simp) (by simp [isArr, pinsOf, rrR]) (rput_ok t _ _ (by first | omega | (simp only [wt_append, wt_cons, wt_nil, List.length_cons, List.length_nil]; omega) | ((try simp only [putAll_putAll]); refine Nat.le_trans (Nat.add_le_add_right (putAll_len _ _) _) ?_; (try simp only [wt_append, wt_cons, wt_nil, List.length_append, List.length_cons, List.length_nil]); omega))) ?_; rintro _ _ ⟨rfl, rfl⟩; refine ⟨by simp [rrR], ?_⟩; conv => whnf)
    | (refine CallG.con call35 rfl (rType_ok _) ?_; conv => whnf)
    | (refine CallQG.con call35 rfl (rType_ok _) ?_; conv => whnf)
    | (refine CallG.con call51 rfl (rStmt_ok _) ?_; conv => whnf)
    | (refine CallQG.con call51 rfl (rStmt_ok _) ?_; conv => whnf)
    | exact ⟨rfl⟩
    | fail
  all_goals try (refine Side.mk ?_; first | omega | (simp; done) | (intro row hr; obtain ⟨_, _, rfl⟩ := List.mem_map.1 hr; rfl) | (simp only [List.length_map, List.length_cons, List.length_nil]; omega) | (dsimp only; simp only [List.length_map, List.length_cons, List.length_nil]; omega))
  all_goals try (exfalso; first | (rename_i hq; exact hnum hq) | (rename_i hq _; exact hnum hq) | (rename_i hq _ _; exact hnum hq))
  all_goals try (exfalso; omega)
  all_goals try (exfalso; dsimp only at *; omega)
  all_goals exact FinRr.mk' (by simp [putAll_putAll, putAll_nil])
theorem rnode53a_ok (t : List Al.Node) (T : Int → List Bytes) (nm : Bytes) (ks : List Int) (fr to : Int) (i : Int) (h0i : 0 ≤ i) (hx : t[i.toNat]? = some ⟨53, nm, 1, ks, fr, to⟩) : PutsR t 26 [I i] ([[116, 114, 117, 101]]) := by
  have hrow : lat (List.map rNode t) i.toNat = some (rNode ⟨53, nm, 1, ks, fr, to⟩) := by rw [lat_eq, List.getElem?_map, hx]; rfl
  have hlt := (List.getElem?_eq_some_iff.1 hx).1
  refine PutsR.of fun s hb => ?_
  try simp only [wt_append, wt_cons, wt_nil, List.length_cons, List.length_nil] at hb
  refine .run ttab_ok func26 rfl (by kernel_rfl) (by simp [f26]) rfl ?_
  conv => whnf
  repeat' first
    | (refine AllRow.of hrow ?_; conv => whnf)
    | (intro h; exfalso; revert h; simp; done)
    | (intro _; conv => whnf)
    | (apply And.intro <;> (conv => whnf))
    | (refine AllRow.of rfl ?_; conv => whnf)
    | (apply AllRow.map; intro _ _; conv => whnf)
    | (refine CallG.lend call53 [0] (by simp) (by simp) (by simp [isArr, pinsOf, rrR]) (rput_ok t _ _ (by first | omega | (simp only [wt_append, wt_cons, wt_nil, List.length_cons, List.length_nil]; omega) | ((try simp only [putAll_putAll]); refine Nat.le_trans (Nat.add_le_add_right (putAll_len _ _) _) ?_; (try simp only [wt_append, wt_cons, wt_nil, List.length_append, List.length_cons, List.length_nil]); omega))) ?_; rintro _ _ ⟨rfl, rfl⟩; refine ⟨by simp [rrR], ?_⟩; conv => whnf)
    | (refine CallG.con call35 rfl (rType_ok _) ?_; conv => whnf)
    | (refine CallQG.con call35 rfl (rType_ok _) ?_; conv => whnf)
    | (refine CallG.con call51 rfl (rStmt_ok _) ?_; conv => whnf)
    | (refine CallQG.con call51 rfl (rStmt_ok _) ?_; conv => whnf)
    | exact ⟨rfl⟩
    | fail
  all_goals try (refine Side.mk ?_; first | omega | (simp; done) | (intro row hr; obtain ⟨_, _, rfl⟩ := List.mem_map.1 hr; rfl) | (simp only [List.length_map, List.length_cons, List.length_nil]; omega) | (dsimp only; simp only [List.length_map, List.length_cons, List.length_nil]; omega))
  all_goals try (exfalso; omega)
  all_goals try (exfalso; dsimp only at *; omega)
  all_goals exact FinRr.mk' (by simp [putAll_putAll, putAll_nil])
theorem rnode53b_ok (t : List Al.Node) (T : Int → List Bytes) (nm : Bytes) (num : Int) (hnum : num ≠ 1) (ks : List Int) (fr to : Int) (i : Int) (h0i : 0 ≤ i) (hx : t[i.toNat]? = some ⟨53, nm, num, ks, fr, to⟩) : PutsR t 26 [I i] ([[102, 97, 108, 115, 101]]) := by
  have hrow : lat (List.map rNode t) i.toNat = some (rNode ⟨53, nm, num, ks, fr, to⟩) := by rw [lat_eq, List.getElem?_map, hx]; rfl
  have hlt := (List.getElem?_eq_some_iff.1 hx).1
  refine PutsR.of fun s hb => ?_
  try simp only [wt_append, wt_cons, wt_nil, List.length_cons, List.length_nil] at hb
  refine .run ttab_ok func26 rfl (by kernel_rfl) (by simp [f26]) rfl ?_
  conv => whnf
  repeat' first
    | (refine AllRow.of hrow ?_; conv => whnf)
    | (intro h; exfalso; revert h; simp; done)
    | (intro _; conv => whnf)
    | (apply And.intro <;> (conv => whnf))
    | (refine AllRow.of rfl ?_; conv => whnf)
    | (apply AllRow.map; intro _ _; conv => whnf)
    | (refine CallG.lend call53 [0] (by simp) (by simp) (by simp [isArr, pinsOf, rrR]) (rput_ok t _ _ (by first | omega | (simp only [wt_append, wt_cons, wt_nil, List.length_cons, List.length_nil]; omega) | ((try simp only [putAll_putAll]); refine Nat.le_trans (Nat.add_le_add_right (putAll_len _ _) _) ?_; (try simp only [wt_append, wt_cons, wt_nil, List.length_append, List.length_cons, List.length_nil]); omega))) ?_; rintro _ _ ⟨rfl, rfl⟩; refine ⟨by simp [rrR], ?_⟩; conv => whnf)
    | (refine CallG.con call35 rfl (rType_ok _) ?_; conv => whnf)
    | (refine CallQG.con call35 rfl (rType_ok _) ?_; conv => whnf)
    | (refine CallG.con call51 rfl (rStmt_ok _) ?_; conv => whnf)
    | (refine CallQG.con call51 rfl (rStmt_ok _) ?_; conv => whnf)
    | exact ⟨rfl⟩
    | fail
  all_goals try (refine Side.mk ?_; first | omega | (simp; done) | (intro row hr; obtain ⟨_, _, rfl⟩ := List.mem_map.1 hr; rfl) | (simp only [List.length_map, List.length_cons, List.length_nil]; omega) | (dsimp only; simp only [List.length_map, List.length_cons, List.length_nil]; omega))
  all_goals try (exfalso; first | (rename_i hq; exact hnum hq) | (rename_i hq _; exact hnum hq) | (rename_i hq _ _; exact hnum hq))
  all_goals try (exfalso; omega)
  all_goals try (exfalso; dsimp only at *; omega)
  all_goals exact FinRr.mk' (by simp [putAll_putAll, putAll_nil])
theorem rnode38_ok (t : List Al.Node) (T : Int → List Bytes) (nm : Bytes) (num : Int) (fr to : Int) (k : Int) (m : Int) (hk : KidR t T k) (hm : KidR t T m) (i : Int) (h0i : 0 ≤ i) (hx : t[i.toNat]? = some ⟨38, nm, num, [k, m], fr, to⟩) : PutsR t 26 [I i] (opT t T k false ++ (nm :: opT t T m false)) := by
  have hrow : lat (List.map rNode t) i.toNat = some (rNode ⟨38, nm, num, [k, m], fr, to⟩) := by rw [lat_eq, List.getElem?_map, hx]; rfl
  have hlt := (List.getElem?_eq_some_iff.1 hx).1
  refine PutsR.of fun s hb => ?_
  try simp only [wt_append, wt_cons, wt_nil, List.length_cons, List.length_nil] at hb
  refine .run ttab_ok func26 rfl (by kernel_rfl) (by simp [f26]) rfl ?_
  conv => whnf
  repeat' first
    | (refine AllRow.of hrow ?_; conv => whnf)
    | (intro h; exfalso; revert h; simp; done)
    | (intro _; conv => whnf)
    | (apply And.intro <;> (conv => whnf))
    | (refine AllRow.of rfl ?_; conv => whnf)
    | (apply AllRow.map; intro _ _; conv => whnf)
    | (refine CallG.lend call53 [0] (by simp) (by simp) (by simp [isArr, pinsOf, rrR]) (rput_ok t _ _ (by first | omega | (simp only [wt_append, wt_cons, wt_nil, List.length_cons, List.length_nil]; omega) | ((try simp only [putAll_putAll]); refine Nat.le_trans (Nat.add_le_add_right (putAll_len _ _) _) ?_; (try simp only [wt_append, wt_cons, wt_nil, List.length_append, List.length_cons, List.length_nil]); omega))) ?_; rintro _ _ ⟨rfl, rfl⟩; refine ⟨by simp [rrR], ?_⟩; conv => whnf)
    | (refine CallG.con call35 rfl (rType_ok _) ?_; conv => whnf)
    | (refine CallQG.con call35 rfl (rType_ok _) ?_; conv => whnf)
    | (refine CallG.con call51 rfl (rStmt_ok _) ?_; conv => whnf)
    | (refine CallQG.con call51 rfl (rStmt_ok _) ?_; conv => whnf)
    | (refine CallG.lend call56 [0] (by simp) (by simp) (by simp [isArr, pinsOf, rrR]) (rop_ok hk false _ (by first | omega | (simp only [wt_append, wt_cons, wt_nil, List.length_cons, List.length_nil]; omega) | ((try simp only [putAll_putAll]); refine Nat.le_trans (Nat.add_le_add_right (putAll_len _ _) _) ?_; (try simp only [wt_append, wt_cons, wt_nil, List.length_append, List.length_cons, List.length_nil]); omega))) ?_; rintro _ _ ⟨rfl, rfl⟩; refine ⟨by simp [rrR], ?_⟩; conv => whnf)
    | (refine CallG.lend call56 [0] (by simp) (by simp) (by simp [isArr, pinsOf, rrR]) (rop_ok hm false _ (by first | omega | (simp only [wt_append, wt_cons, wt_nil, List.length_cons, List.length_nil]; omega) | ((try simp only [putAll_putAll]); refine Nat.le_trans (Nat.add_le_add_right (putAll_len _ _) _) ?_; (try simp only [wt_append, wt_cons, wt_nil, List.length_append, List.length_cons, List.length_nil]); omega))) ?_; rintro _ _ ⟨rfl, rfl⟩; refine ⟨by simp [rrR], ?_⟩; conv => whnf)
    | exact ⟨rfl⟩
    | fail
  all_goals try (refine Side.mk ?_; first | omega | (simp; done) | (intro row hr; obtain ⟨_, _, rfl⟩ := List.mem_map.1 hr; rfl) | (simp only [List.length_map, List.length_cons, List.length_nil]; omega) | (dsimp only; simp only [List.length_map, List.length_cons, List.length_nil]; omega))
  all_goals try (exfalso; omega)
  all_goals try (exfalso; dsimp only at *; omega)
  all_goals exact FinRr.mk' (by simp [putAll_putAll, putAll_nil])
theorem rnode41_ok (t : List Al.Node) (T : Int → List Bytes) (nm : Bytes) (num : Int) (fr to : Int) (k : Int) (hk : KidR t T k) (i : Int) (h0i : 0 ≤ i) (hx : t[i.toNat]? = some ⟨41, nm, num, [k], fr, to⟩) : PutsR t 26 [I i] (opT t T k true ++ [[46], nm]) := by
  have hrow : lat (List.map rNode t) i.toNat = some (rNode ⟨41, nm, num, [k], fr, to⟩) := by rw [lat_eq, List.getElem?_map, hx]; rfl
  have hlt := (List.getElem?_eq_some_iff.1 hx).1
  refine PutsR.of fun s hb => ?_
  try simp only [wt_append, wt_cons, wt_nil, List.length_cons, List.length_nil] at hb
  refine .run ttab_ok func26 rfl (by kernel_rfl) (by simp [f26]) rfl ?_
  conv => whnf
  repeat' first
    | (refine AllRow.of hrow ?_; conv => whnf)
    | (intro h; exfalso; revert h; simp; done)
    | (intro _; conv => whnf)
    | (apply And.intro <;> (conv => whnf))
    | (refine AllRow.of rfl ?_; conv => whnf)
    | (apply AllRow.map; intro _ _; conv => whnf)
    | (refine CallG.lend call53 [0] (by simp) (by simp) (by simp [isArr, pinsOf, rrR]) (rput_ok t _ _ (by first | omega | (simp only [wt_append, wt_cons, wt_nil, List.length_cons, List.length_nil]; omega) | ((try simp only [putAll_putAll]); refine Nat.le_trans (Nat.add_le_add_right (putAll_len _ _) _) ?_; (try simp only [wt_append, wt_cons, wt_nil, List.length_append, List.length_cons, List.length_nil]); omega))) ?_; rintro _ _ ⟨rfl, rfl⟩; refine ⟨by simp [rrR], ?_⟩; conv => whnf)
    | (refine CallG.con call35 rfl (rType_ok _) ?_; conv => whnf)
    | (refine CallQG.con call35 rfl (rType_ok _) ?_; conv => whnf)
    | (refine CallG.con call51 rfl (rStmt_ok _) ?_; conv => whnf)
    | (refine CallQG.con call51 rfl (rStmt_ok _) ?_; conv => whnf)
    | (refine CallG.lend call56 [0] (by simp) (by simp) (by simp [isArr, pinsOf, rrR]) (rop_ok hk true _ (by first | omega | (simp only [wt_append, wt_cons, wt_nil, List.length_cons, List.length_nil]; omega) | ((try simp only [putAll_putAll]); refine Nat.le_trans (Nat.add_le_add_right (putAll_len _ _) _) ?_; (try simp only [wt_append, wt_cons, wt_nil, List.length_append, List.length_cons, List.length_nil]); omega))) ?_; rintro _ _ ⟨rfl, rfl⟩; refine ⟨by simp [rrR], ?_⟩; conv => whnf)
    | exact ⟨rfl⟩
    | fail
  all_goals try (refine Side.mk ?_; first | omega | (simp; done) | (intro row hr; obtain ⟨_, _, rfl⟩ := List.mem_map.1 hr; rfl) | (simp only [List.length_map, List.length_cons, List.length_nil]; omega) | (dsimp only; simp only [List.length_map, List.length_cons, List.length_nil]; omega))
  all_goals try (exfalso; omega)
  all_goals try (exfalso; dsimp only at *; omega)
  all_goals exact FinRr.mk' (by simp [putAll_putAll, putAll_nil])
theorem rnode20_ok (t : List Al.Node) (T : Int → List Bytes) (nm : Bytes) (num : Int) (ks : List Int) (fr to : Int) (hl : ks.length ≤ 17592186043904) (ih : ∀ k, k ∈ ks → KidR t T k) (i : Int) (h0i : 0 ≤ i) (hx : t[i.toNat]? = some ⟨20, nm, num, ks, fr, to⟩) (hrow : lat (List.map rNode t) i.toNat = some (rNode ⟨20, nm, num, ks, fr, to⟩)) (hlt : i.toNat < t.length) : PutsR t 26 [I i] ([123] :: (allT T ks ++ [[125]])) := by
  refine PutsR.of fun s hb => ?_
  try simp only [wt_append, wt_cons, wt_nil, List.length_cons, List.length_nil] at hb
  refine .run ttab_ok func26 rfl (by kernel_rfl) (by simp [f26]) rfl ?_
  conv => whnf
  repeat' first
    | (refine AllRow.of hrow ?_; conv => whnf)
    | (intro h; exfalso; revert h; simp; done)
    | (intro _; conv => whnf)
    | (apply And.intro <;> (conv => whnf))
    | (refine AllRow.of rfl ?_; conv => whnf)
    | (apply AllRow.map; intro _ _; conv => whnf)
    | (refine CallG.lend call53 [0] (by simp) (by simp) (by simp [isArr, pinsOf, rrR]) (rput_ok t _ _ (by first | omega | (simp only [wt_append, wt_cons, wt_nil, List.length_cons, List.length_nil]; omega) | ((try simp only [putAll_putAll]); refine Nat.le_trans (Nat.add_le_add_right (putAll_len _ _) _) ?_; (try simp only [wt_append, wt_cons, wt_nil, List.length_append, List.length_cons, List.length_nil]); omega))) ?_; rintro _ _ ⟨rfl, rfl⟩; refine ⟨by simp [rrR], ?_⟩; conv => whnf)
    | (refine CallG.con call35 rfl (rType_ok _) ?_; conv => whnf)
    | (refine CallQG.con call35 rfl (rType_ok _) ?_; conv => whnf)
    | (refine CallG.con call51 rfl (rStmt_ok _) ?_; conv => whnf)
    | (refine CallQG.con call51 rfl (rStmt_ok _) ?_; conv => whnf)
    | exact ⟨rfl⟩
    | fail
  all_goals try (refine Side.mk ?_; first | omega | (simp; done) | (intro row hr; obtain ⟨_, _, rfl⟩ := List.mem_map.1 hr; rfl) | (simp only [List.length_map, List.length_cons, List.length_nil]; omega) | (dsimp only; simp only [List.length_map, List.length_cons, List.length_nil]; omega))
  refine LoopG.of ttab_ok [0, 46, 47, 48] [0] (fun (j : Nat) => ⟨[(0, .ptr 0 0 0), (46, .d (dInts ks)), (47, I ks.length), (48, I j)], rrR t (putAll s ([[123]] ++ allT T (ks.take j)))⟩) (fun j => j ≤ ks.length) (fun j => ks.length - j) 0 (by kernel_rfl) (by simp) posOf_one (by simp) ?hs (by omega) ?_
  case hs =>
    first
      | (simp only [keepSt, keepE, Al.look, envOf, lend, ren, renL, renR, posOf, List.map_cons, List.map_nil]; done)
      | (simp only [keepSt, keepE, Al.look, envOf, lend, ren, renL, renR, posOf, List.map_cons, List.map_nil]; simp [I, S, B, U8, dI, dS, dB, dU8, dInts, dStrs, dNodes, ren, renL, renR, posOf, Al.look, envOf, rrR, allT, putAll_nil])
      | (simp [keepSt, keepE, lend, I, S, B, U8, dI, dS, dB, dU8, dInts, dStrs, dNodes, ren, renL, renR, posOf, Al.look, envOf, rrR, allT, putAll_nil])
  intro j hj
  have hle := wt_allle (T := T) (l := ks) (j + 1)
  by_cases hlt : j < ks.length
  · obtain ⟨k, hk⟩ : ∃ k, ks[j]? = some k := ⟨_, List.getElem?_eq_getElem hlt⟩
    have hst := allT_step (T := T) hk
    rw [hst, wt_append] at hle
    have hrow2 : lat (List.map rI ks) (j : Int).toNat = some (rI k) := by rw [lat_eq, List.getElem?_map, Int.toNat_natCast, hk]; rfl
    conv => whnf
    repeat' first
      | (refine AllRow.of hrow2 ?_; conv => whnf)
      | (intro h; exfalso; revert h; simp; done)
      | (intro _; conv => whnf)
      | (apply And.intro <;> (conv => whnf))
      | (refine AllRow.of rfl ?_; conv => whnf)
      | (apply AllRow.map; intro _ _; conv => whnf)
      | (refine CallG.lend call26 [0] (by simp) (by simp) (by simp [isArr, pinsOf, rrR]) ((ih k (List.mem_of_getElem? hk)).put _ (by first | omega | (simp only [wt_append, wt_cons, wt_nil, List.length_cons, List.length_nil]; omega) | ((try simp only [putAll_putAll]); refine Nat.le_trans (Nat.add_le_add_right (putAll_len _ _) _) ?_; (try simp only [wt_append, wt_cons, wt_nil, List.length_append, List.length_cons, List.length_nil]); omega))) ?_; rintro _ _ ⟨rfl, rfl⟩; refine ⟨by simp [rrR], ?_⟩; conv => whnf)
      | exact ⟨rfl⟩
      | fail
    all_goals try (refine Side.mk ?_; first | omega | (simp only [List.length_map]; omega))
    all_goals try (exfalso; omega)
    refine RoundG.mk' (j + 1) (by simp) ?_ (by omega) (by omega)
    rw [hst]
    first
      | (simp only [keepSt, keepE, Al.look, envOf, lend, ren, renL, renR, posOf, List.map_cons, List.map_nil]; done)
      | (simp only [keepSt, keepE, Al.look, envOf, lend, ren, renL, renR, posOf, List.map_cons, List.map_nil]; simp [I, S, B, U8, dI, dS, dB, dU8, dInts, dStrs, dNodes, ren, renL, renR, posOf, Al.look, envOf, rrR, putAll_putAll, List.append_assoc])
      | (simp [keepSt, keepE, lend, I, S, B, U8, dI, dS, dB, dU8, dInts, dStrs, dNodes, ren, renL, renR, posOf, Al.look, envOf, rrR, putAll_putAll, List.append_assoc])
  · have hjl : j = ks.length := by omega
    subst hjl
    rw [List.take_length]
    conv => whnf
    repeat' first
      | (intro h; exfalso; revert h; simp; done)
      | (intro _; conv => whnf)
      | (apply And.intro <;> (conv => whnf))
      | (refine AllRow.of rfl ?_; conv => whnf)
      | (apply AllRow.map; intro _ _; conv => whnf)
      | (refine CallG.lend call53 [0] (by simp) (by simp) (by simp [isArr, pinsOf, rrR]) (rput_ok t _ _ (by first | omega | (simp only [wt_append, wt_cons, wt_nil, List.length_cons, List.length_nil]; omega) | ((try simp only [putAll_putAll]); refine Nat.le_trans (Nat.add_le_add_right (putAll_len _ _) _) ?_; (try simp only [wt_append, wt_cons, wt_nil, List.length_append, List.length_cons, List.length_nil]); omega))) ?_; rintro _ _ ⟨rfl, rfl⟩; refine ⟨by simp [rrR], ?_⟩; conv => whnf)
      | exact ⟨rfl⟩
      | fail
    all_goals try (refine Side.mk ?_; first | omega | (simp; done) | (intro row hr; obtain ⟨_, _, rfl⟩ := List.mem_map.1 hr; rfl) | (simp only [List.length_map, List.length_cons, List.length_nil]; omega) | (dsimp only; simp only [List.length_map, List.length_cons, List.length_nil]; omega))
    all_goals try (exfalso; omega)
    all_goals exact FinRr.mk' (by simp [putAll_putAll, putAll_nil])
theorem rnode_item (t : List Al.Node) (i : Int) (x : Al.Node) (h0 : 0 ≤ i) (hx : t[i.toNat]? = some x) (hk : x.kind ≤ 7) (ts : List Bytes) (hs : PutsR t 49 [aNode x] ts) : PutsR t 26 [I i] ts := by
  have hrow : lat (List.map rNode t) i.toNat = some (rNode x) := by rw [lat_eq, List.getElem?_map, hx]; rfl
  have hlt := (List.getElem?_eq_some_iff.1 hx).1
  refine PutsR.of fun s hb => ?_
  refine .run ttab_ok func26 rfl (by kernel_rfl) (by simp [f26]) rfl ?_
  conv => whnf
  repeat' first
    | (refine AllRow.of hrow ?_; conv => whnf)
    | (intro _; conv => whnf)
    | (apply And.intro <;> (conv => whnf))
    | (refine AllRow.of rfl ?_; conv => whnf)
    | (apply AllRow.map; intro _ _; conv => whnf)
    | (refine CallG.con call35 rfl (rType_ok _) ?_; conv => whnf)
    | (refine CallQG.con call35 rfl (rType_ok _) ?_; conv => whnf)
    | (refine CallG.con call51 rfl (rStmt_ok _) ?_; conv => whnf)
    | (refine CallQG.con call51 rfl (rStmt_ok _) ?_; conv => whnf)
    | (refine CallG.lend call49 [0] (by simp) (by simp) (by simp [isArr, pinsOf, rrR]) (hs _ (by first | omega | (simp only [wt_append, wt_cons, wt_nil, List.length_cons, List.length_nil]; omega) | ((try simp only [putAll_putAll]); refine Nat.le_trans (Nat.add_le_add_right (putAll_len _ _) _) ?_; (try simp only [wt_append, wt_cons, wt_nil, List.length_append, List.length_cons, List.length_nil]); omega))) ?_; rintro _ _ ⟨rfl, rfl⟩; refine ⟨by simp [rrR], ?_⟩; conv => whnf)
    | exact ⟨rfl⟩
    | fail
  all_goals try (refine Side.mk ?_; first | omega | (simp only [List.length_map]; omega))
  all_goals try (exfalso; first | omega | (simp only [decide_eq_true_eq, decide_eq_false_iff_not] at *; omega))
  all_goals exact FinRr.mk' (by simp [putAll_putAll])
theorem rnode_typ (t : List Al.Node) (i : Int) (x : Al.Node) (h0 : 0 ≤ i) (hx : t[i.toNat]? = some x) (hk : 10 ≤ x.kind ∧ x.kind ≤ 16) (ts : List Bytes) (hs : PutsR t 50 [aNode x] ts) : PutsR t 26 [I i] ts := by
  have hrow : lat (List.map rNode t) i.toNat = some (rNode x) := by rw [lat_eq, List.getElem?_map, hx]; rfl
  have hlt := (List.getElem?_eq_some_iff.1 hx).1
  refine PutsR.of fun s hb => ?_
  refine .run ttab_ok func26 rfl (by kernel_rfl) (by simp [f26]) rfl ?_
  conv => whnf
  repeat' first
    | (refine AllRow.of hrow ?_; conv => whnf)
    | (intro _; conv => whnf)
    | (apply And.intro <;> (conv => whnf))
    | (refine AllRow.of rfl ?_; conv => whnf)
    | (apply AllRow.map; intro _ _; conv => whnf)
    | (refine CallG.con call35 rfl (rType_ok _) ?_; conv => whnf)
    | (refine CallQG.con call35 rfl (rType_ok _) ?_; conv => whnf)
    | (refine CallG.con call51 rfl (rStmt_ok _) ?_; conv => whnf)
    | (refine CallQG.con call51 rfl (rStmt_ok _) ?_; conv => whnf)
    | (refine CallG.lend call50 [0] (by simp) (by simp) (by simp [isArr, pinsOf, rrR]) (hs _ (by first | omega | (simp only [wt_append, wt_cons, wt_nil, List.length_cons, List.length_nil]; omega) | ((try simp only [putAll_putAll]); refine Nat.le_trans (Nat.add_le_add_right (putAll_len _ _) _) ?_; (try simp only [wt_append, wt_cons, wt_nil, List.length_append, List.length_cons, List.length_nil]); omega))) ?_; rintro _ _ ⟨rfl, rfl⟩; refine ⟨by simp [rrR], ?_⟩; conv => whnf)
    | exact ⟨rfl⟩
    | fail
  all_goals try (refine Side.mk ?_; first | omega | (simp only [List.length_map]; omega))
  all_goals try (exfalso; first | omega | (simp only [decide_eq_true_eq, decide_eq_false_iff_not] at *; omega))
  all_goals exact FinRr.mk' (by simp [putAll_putAll])
theorem rnode_stmt (t : List Al.Node) (i : Int) (x : Al.Node) (h0 : 0 ≤ i) (hx : t[i.toNat]? = some x) (hk : 21 ≤ x.kind ∧ x.kind ≤ 27) (ts : List Bytes) (hs : PutsR t 52 [aNode x] ts) : PutsR t 26 [I i] ts := by
  have hrow : lat (List.map rNode t) i.toNat = some (rNode x) := by rw [lat_eq, List.getElem?_map, hx]; rfl
  have hlt := (List.getElem?_eq_some_iff.1 hx).1
  refine PutsR.of fun s hb => ?_
  refine .run ttab_ok func26 rfl (by kernel_rfl) (by simp [f26]) rfl ?_
  conv => whnf
  repeat' first
    | (refine AllRow.of hrow ?_; conv => whnf)
    | (intro _; conv => whnf)
    | (apply And.intro <;> (conv => whnf))
    | (refine AllRow.of rfl ?_; conv => whnf)
    | (apply AllRow.map; intro _ _; conv => whnf)
    | (refine CallG.con call35 rfl (rType_ok _) ?_; conv => whnf)
    | (refine CallQG.con call35 rfl (rType_ok _) ?_; conv => whnf)
    | (refine CallG.con call51 rfl (rStmt_ok _) ?_; conv => whnf)
    | (refine CallQG.con call51 rfl (rStmt_ok _) ?_; conv => whnf)
    | (refine CallG.lend call52 [0] (by simp) (by simp) (by simp [isArr, pinsOf, rrR]) (hs _ (by first | omega | (simp only [wt_append, wt_cons, wt_nil, List.length_cons, List.length_nil]; omega) | ((try simp only [putAll_putAll]); refine Nat.le_trans (Nat.add_le_add_right (putAll_len _ _) _) ?_; (try simp only [wt_append, wt_cons, wt_nil, List.length_append, List.length_cons, List.length_nil]); omega))) ?_; rintro _ _ ⟨rfl, rfl⟩; refine ⟨by simp [rrR], ?_⟩; conv => whnf)
    | exact ⟨rfl⟩
    | fail
  all_goals try (refine Side.mk ?_; first | omega | (simp only [List.length_map]; omega))
  all_goals try (exfalso; first | omega | (simp only [decide_eq_true_eq, decide_eq_false_iff_not] at *; omega))
  all_goals exact FinRr.mk' (by simp [putAll_putAll])
theorem rnode_num (t : List Al.Node) (i : Int) (x : Al.Node) (h0 : 0 ≤ i) (hx : t[i.toNat]? = some x) (hk : x.kind = 30 ∨ x.kind = 52) (ts : List Bytes) (hs : PutsR t 54 [I x.num] ts) : PutsR t 26 [I i] ts := by
  have hrow : lat (List.map rNode t) i.toNat = some (rNode x) := by rw [lat_eq, List.getElem?_map, hx]; rfl
  have hlt := (List.getElem?_eq_some_iff.1 hx).1
  refine PutsR.of fun s hb => ?_
  refine .run ttab_ok func26 rfl (by kernel_rfl) (by simp [f26]) rfl ?_
  conv => whnf
  repeat' first
    | (refine AllRow.of hrow ?_; conv => whnf)
    | (intro _; conv => whnf)
    | (apply And.intro <;> (conv => whnf))
    | (refine AllRow.of rfl ?_; conv => whnf)
    | (apply AllRow.map; intro _ _; conv => whnf)
    | (refine CallG.con call35 rfl (rType_ok _) ?_; conv => whnf)
    | (refine CallQG.con call35 rfl (rType_ok _) ?_; conv => whnf)
    | (refine CallG.con call51 rfl (rStmt_ok _) ?_; conv => whnf)
    | (refine CallQG.con call51 rfl (rStmt_ok _) ?_; conv => whnf)
    | (refine CallG.lend call54 [0] (by simp) (by simp) (by simp [isArr, pinsOf, rrR]) (hs _ (by first | omega | (simp only [wt_append, wt_cons, wt_nil, List.length_cons, List.length_nil]; omega) | ((try simp only [putAll_putAll]); refine Nat.le_trans (Nat.add_le_add_right (putAll_len _ _) _) ?_; (try simp only [wt_append, wt_cons, wt_nil, List.length_append, List.length_cons, List.length_nil]); omega))) ?_; rintro _ _ ⟨rfl, rfl⟩; refine ⟨by simp [rrR], ?_⟩; conv => whnf)
    | exact ⟨rfl⟩
    | fail
  all_goals try (refine Side.mk ?_; first | omega | (simp only [List.length_map]; omega))
  all_goals try (exfalso; first | omega | (simp only [decide_eq_true_eq, decide_eq_false_iff_not] at *; omega))
  all_goals exact FinRr.mk' (by simp [putAll_putAll])
theorem rnode_pick (t : List Al.Node) (i : Int) (x : Al.Node) (h0 : 0 ≤ i) (hx : t[i.toNat]? = some x) (hk : x.kind = 37 ∨ x.kind = 54) (ts : List Bytes) (hs : PutsR t 55 [aNode x] ts) : PutsR t 26 [I i] ts := by
  have hrow : lat (List.map rNode t) i.toNat = some (rNode x) := by rw [lat_eq, List.getElem?_map, hx]; rfl
  have hlt := (List.getElem?_eq_some_iff.1 hx).1
  refine PutsR.of fun s hb => ?_
  refine .run ttab_ok func26 rfl (by kernel_rfl) (by simp [f26]) rfl ?_
  conv => whnf
  repeat' first
    | (refine AllRow.of hrow ?_; conv => whnf)
    | (intro _; conv => whnf)
    | (apply And.intro <;> (conv => whnf))
    | (refine AllRow.of rfl ?_; conv => whnf)
    | (apply AllRow.map; intro _ _; conv => whnf)
    | (refine CallG.con call35 rfl (rType_ok _) ?_; conv => whnf)
    | (refine CallQG.con call35 rfl (rType_ok _) ?_; conv => whnf)
    | (refine CallG.con call51 rfl (rStmt_ok _) ?_; conv => whnf)
    | (refine CallQG.con call51 rfl (rStmt_ok _) ?_; conv => whnf)
    | (refine CallG.lend call55 [0] (by simp) (by simp) (by simp [isArr, pinsOf, rrR]) (hs _ (by first | omega | (simp only [wt_append, wt_cons, wt_nil, List.length_cons, List.length_nil]; omega) | ((try simp only [putAll_putAll]); refine Nat.le_trans (Nat.add_le_add_right (putAll_len _ _) _) ?_; (try simp only [wt_append, wt_cons, wt_nil, List.length_append, List.length_cons, List.length_nil]); omega))) ?_; rintro _ _ ⟨rfl, rfl⟩; refine ⟨by simp [rrR], ?_⟩; conv => whnf)
    | exact ⟨rfl⟩
    | fail
  all_goals try (refine Side.mk ?_; first | omega | (simp only [List.length_map]; omega))
  all_goals try (exfalso; first | omega | (simp only [decide_eq_true_eq, decide_eq_false_iff_not] at *; omega))
  all_goals exact FinRr.mk' (by simp [putAll_putAll])
theorem rnode_call (t : List Al.Node) (i : Int) (x : Al.Node) (h0 : 0 ≤ i) (hx : t[i.toNat]? = some x) (hk : x.kind = 34 ∨ x.kind = 35 ∨ x.kind = 36 ∨ x.kind = 44) (ts : List Bytes) (hs : PutsR t 57 [aNode x] ts) : PutsR t 26 [I i] ts := by
  have hrow : lat (List.map rNode t) i.toNat = some (rNode x) := by rw [lat_eq, List.getElem?_map, hx]; rfl
  have hlt := (List.getElem?_eq_some_iff.1 hx).1
  refine PutsR.of fun s hb => ?_
  refine .run ttab_ok func26 rfl (by kernel_rfl) (by simp [f26]) rfl ?_
  conv => whnf
  repeat' first
    | (refine AllRow.of hrow ?_; conv => whnf)
    | (intro _; conv => whnf)
    | (apply And.intro <;> (conv => whnf))
    | (refine AllRow.of rfl ?_; conv => whnf)
    | (apply AllRow.map; intro _ _; conv => whnf)
    | (refine CallG.con call35 rfl (rType_ok _) ?_; conv => whnf)
    | (refine CallQG.con call35 rfl (rType_ok _) ?_; conv => whnf)
    | (refine CallG.con call51 rfl (rStmt_ok _) ?_; conv => whnf)
    | (refine CallQG.con call51 rfl (rStmt_ok _) ?_; conv => whnf)
    | (refine CallG.lend call57 [0] (by simp) (by simp) (by simp [isArr, pinsOf, rrR]) (hs _ (by first | omega | (simp only [wt_append, wt_cons, wt_nil, List.length_cons, List.length_nil]; omega) | ((try simp only [putAll_putAll]); refine Nat.le_trans (Nat.add_le_add_right (putAll_len _ _) _) ?_; (try simp only [wt_append, wt_cons, wt_nil, List.length_append, List.length_cons, List.length_nil]); omega))) ?_; rintro _ _ ⟨rfl, rfl⟩; refine ⟨by simp [rrR], ?_⟩; conv => whnf)
    | exact ⟨rfl⟩
    | fail
  all_goals try (refine Side.mk ?_; first | omega | (simp only [List.length_map]; omega))
  all_goals try (exfalso; first | omega | (simp only [decide_eq_true_eq, decide_eq_false_iff_not] at *; omega))
  all_goals exact FinRr.mk' (by simp [putAll_putAll])
theorem rnode_choice (t : List Al.Node) (i : Int) (x : Al.Node) (h0 : 0 ≤ i) (hx : t[i.toNat]? = some x) (hk : x.kind = 45 ∨ x.kind = 46 ∨ x.kind = 47) (ts : List Bytes) (hs : PutsR t 58 [aNode x] ts) : PutsR t 26 [I i] ts := by
  have hrow : lat (List.map rNode t) i.toNat = some (rNode x) := by rw [lat_eq, List.getElem?_map, hx]; rfl
  have hlt := (List.getElem?_eq_some_iff.1 hx).1
  refine PutsR.of fun s hb => ?_
  refine .run ttab_ok func26 rfl (by kernel_rfl) (by simp [f26]) rfl ?_
  conv => whnf
  repeat' first
    | (refine AllRow.of hrow ?_; conv => whnf)
    | (intro _; conv => whnf)
    | (apply And.intro <;> (conv => whnf))
    | (refine AllRow.of rfl ?_; conv => whnf)
    | (apply AllRow.map; intro _ _; conv => whnf)
    | (refine CallG.con call35 rfl (rType_ok _) ?_; conv => whnf)
    | (refine CallQG.con call35 rfl (rType_ok _) ?_; conv => whnf)
    | (refine CallG.con call51 rfl (rStmt_ok _) ?_; conv => whnf)
    | (refine CallQG.con call51 rfl (rStmt_ok _) ?_; conv => whnf)
    | (refine CallG.lend call58 [0] (by simp) (by simp) (by simp [isArr, pinsOf, rrR]) (hs _ (by first | omega | (simp only [wt_append, wt_cons, wt_nil, List.length_cons, List.length_nil]; omega) | ((try simp only [putAll_putAll]); refine Nat.le_trans (Nat.add_le_add_right (putAll_len _ _) _) ?_; (try simp only [wt_append, wt_cons, wt_nil, List.length_append, List.length_cons, List.length_nil]); omega))) ?_; rintro _ _ ⟨rfl, rfl⟩; refine ⟨by simp [rrR], ?_⟩; conv => whnf)
    | exact ⟨rfl⟩
    | fail
  all_goals try (refine Side.mk ?_; first | omega | (simp only [List.length_map]; omega))
  all_goals try (exfalso; first | omega | (simp only [decide_eq_true_eq, decide_eq_false_iff_not] at *; omega))
  all_goals exact FinRr.mk' (by simp [putAll_putAll])
theorem rnode_prefix (t : List Al.Node) (i : Int) (x : Al.Node) (h0 : 0 ≤ i) (hx : t[i.toNat]? = some x) (hk : x.kind = 39 ∨ x.kind = 40 ∨ x.kind = 42 ∨ x.kind = 43) (ts : List Bytes) (hs : PutsR t 59 [aNode x] ts) : PutsR t 26 [I i] ts := by
  have hrow : lat (List.map rNode t) i.toNat = some (rNode x) := by rw [lat_eq, List.getElem?_map, hx]; rfl
  have hlt := (List.getElem?_eq_some_iff.1 hx).1
  refine PutsR.of fun s hb => ?_
  refine .run ttab_ok func26 rfl (by kernel_rfl) (by simp [f26]) rfl ?_
  conv => whnf
  repeat' first
    | (refine AllRow.of hrow ?_; conv => whnf)
    | (intro _; conv => whnf)
    | (apply And.intro <;> (conv => whnf))
    | (refine AllRow.of rfl ?_; conv => whnf)
    | (apply AllRow.map; intro _ _; conv => whnf)
    | (refine CallG.con call35 rfl (rType_ok _) ?_; conv => whnf)
    | (refine CallQG.con call35 rfl (rType_ok _) ?_; conv => whnf)
    | (refine CallG.con call51 rfl (rStmt_ok _) ?_; conv => whnf)
    | (refine CallQG.con call51 rfl (rStmt_ok _) ?_; conv => whnf)
    | (refine CallG.lend call59 [0] (by simp) (by simp) (by simp [isArr, pinsOf, rrR]) (hs _ (by first | omega | (simp only [wt_append, wt_cons, wt_nil, List.length_cons, List.length_nil]; omega) | ((try simp only [putAll_putAll]); refine Nat.le_trans (Nat.add_le_add_right (putAll_len _ _) _) ?_; (try simp only [wt_append, wt_cons, wt_nil, List.length_append, List.length_cons, List.length_nil]); omega))) ?_; rintro _ _ ⟨rfl, rfl⟩; refine ⟨by simp [rrR], ?_⟩; conv => whnf)
    | exact ⟨rfl⟩
    | fail
  all_goals try (refine Side.mk ?_; first | omega | (simp only [List.length_map]; omega))
  all_goals try (exfalso; first | omega | (simp only [decide_eq_true_eq, decide_eq_false_iff_not] at *; omega))
  all_goals exact FinRr.mk' (by simp [putAll_putAll])
theorem posOf_first : ∀ q, q < 1 → posOf [0, 1] q = some q
  | 0, _ => rfl
theorem picka_ok (t : List Al.Node) (T : Int → List Bytes) (kd : Int) (nm : Bytes) (num : Int) (fr to : Int) (a b : Bytes) (hnm : nm = a ++ 58 :: 58 :: b) (ha : ∀ c, c ∈ a → c ≠ 58) (hlen : nm.length ≤ 130) : PutsR t 55 [aNode ⟨kd, nm, num, [], fr, to⟩] ([a, [58, 58], b]) := by
  refine PutsR.of fun s hb => ?_
  try simp only [wt_append, wt_cons, wt_nil, List.length_cons, List.length_nil] at hb
  refine .run ttab_ok func55 rfl (by kernel_rfl) (by simp [f55]) rfl ?_
  conv => whnf
  repeat' first
    | (intro _; conv => whnf)
    | (apply And.intro <;> (conv => whnf))
    | (refine AllRow.of rfl ?_; conv => whnf)
    | (apply AllRow.map; intro _ _; conv => whnf)
    | exact ⟨rfl⟩
    | fail
  refine LoopG.of ttab_ok [0, 3, 4] [0, 1] (fun (j : Nat) => ⟨[(0, .ptr 0 0 0), (3, .ptr 1 0 0), (4, I j)], rrR t s ++ [.box (cNode ⟨kd, nm, num, [], fr, to⟩)]⟩) (fun j => j ≤ a.length) (fun j => a.length - j) 0 (by kernel_rfl) (by simp) posOf_first (by simp [rrR]) ?hs (by omega) ?_
  case hs =>
    first
      | (simp only [keepSt, keepE, Al.look, envOf, lend, ren, renL, renR, posOf, List.map_cons, List.map_nil]; done)
      | (simp only [keepSt, keepE, Al.look, envOf, lend, ren, renL, renR, posOf, List.map_cons, List.map_nil]; simp [I, S, B, U8, dI, dS, dB, dU8, dInts, dStrs, dNodes, ren, renL, renR, posOf, Al.look, envOf, rrR, cNode])
      | (simp [keepSt, keepE, lend, I, S, B, U8, dI, dS, dB, dU8, dInts, dStrs, dNodes, ren, renL, renR, posOf, Al.look, envOf, rrR, cNode])
  intro j hj
  have hnl : nm.length = a.length + (b.length + 1 + 1) := by rw [hnm]; simp
  obtain ⟨c, hc, e⟩ := byte_at (l := nm) (i := j) (by omega)
  by_cases hlt : j < a.length
  · have hca : c ∈ a := by
      rw [hnm, List.getElem?_append_left hlt] at hc
      exact List.mem_of_getElem? hc
    have hne : bu c ≠ 58 := fun h => ha c hca (by
      have : c.toNat = 58 := by unfold bu at h; omega
      exact UInt8.toNat_inj.1 this)
    conv => whnf
    repeat' first
      | (intro _; conv => whnf)
      | (apply And.intro <;> (conv => whnf))
      | (refine AllRow.of rfl ?_; conv => whnf)
      | (apply AllRow.map; intro _ _; conv => whnf)
      | exact ⟨rfl⟩
      | fail
    all_goals try simp only [Int.toNat_natCast] at *
    all_goals try (refine Side.mk ?_; first | omega | (simp only [size_ba]; omega))
    · refine RoundG.mk' (j + 1) (by simp) ?_ (by omega) (by omega)
      first
        | (simp only [keepSt, keepE, Al.look, envOf, lend, ren, renL, renR, posOf, List.map_cons, List.map_nil]; done)
        | (simp only [keepSt, keepE, Al.look, envOf, lend, ren, renL, renR, posOf, List.map_cons, List.map_nil]; simp [I, S, B, U8, dI, dS, dB, dU8, dInts, dStrs, dNodes, ren, renL, renR, posOf, Al.look, envOf, rrR, cNode])
        | (simp [keepSt, keepE, lend, I, S, B, U8, dI, dS, dB, dU8, dInts, dStrs, dNodes, ren, renL, renR, posOf, Al.look, envOf, rrR, cNode])
    · rename_i hq
      exfalso
      rw [e] at hq
      exact hq hne
  · have hja : j = a.length := by omega
    subst hja
    have hc58 : bu c = 58 := by
      rw [hnm, List.getElem?_append_right (Nat.le_refl _), Nat.sub_self] at hc
      simp at hc
      subst hc
      rfl
    have x1 : (ba nm).extract 0 a.length = ba a := by
      rw [extract_ba, hnm, List.drop_zero, Nat.sub_zero, List.take_left]
    have x2 : (ba nm).extract (a.length + 2) (ba nm).size = ba b := by
      rw [extract_ba, size_ba, List.take_of_length_le (by rw [List.length_drop]; omega), hnm]
      congr 1
      rw [List.drop_append]
      simp
    conv => whnf
    repeat' first
      | (refine CallG.at [.ptr 0 0 0, S b] ?ha ?_; (case ha => (exact congrArg (fun v => [AV.ptr 0 0 0, AV.d (.con (.string v))]) x2)); refine CallG.lend call53 [0] (by simp) (by simp) (by simp [isArr, pinsOf, rrR]) (rput_ok t b _ (by first | omega | (simp only [wt_append, wt_cons, wt_nil, List.length_cons, List.length_nil]; omega) | ((try simp only [putAll_putAll]); refine Nat.le_trans (Nat.add_le_add_right (putAll_len _ _) _) ?_; (try simp only [wt_append, wt_cons, wt_nil, List.length_append, List.length_cons, List.length_nil]); omega))) ?_; rintro _ _ ⟨rfl, rfl⟩; refine ⟨by simp [rrR], ?_⟩; conv => whnf)
      | (refine CallG.at [.ptr 0 0 0, S a] ?ha ?_; (case ha => (exact congrArg (fun v => [AV.ptr 0 0 0, AV.d (.con (.string v))]) x1)); refine CallG.lend call53 [0] (by simp) (by simp) (by simp [isArr, pinsOf, rrR]) (rput_ok t a _ (by first | omega | (simp only [wt_append, wt_cons, wt_nil, List.length_cons, List.length_nil]; omega) | ((try simp only [putAll_putAll]); refine Nat.le_trans (Nat.add_le_add_right (putAll_len _ _) _) ?_; (try simp only [wt_append, wt_cons, wt_nil, List.length_append, List.length_cons, List.length_nil]); omega))) ?_; rintro _ _ ⟨rfl, rfl⟩; refine ⟨by simp [rrR], ?_⟩; conv => whnf)
      | (intro h; exfalso; revert h; simp; done)
      | (intro _; conv => whnf)
      | (apply And.intro <;> (conv => whnf))
      | (refine AllRow.of rfl ?_; conv => whnf)
      | (apply AllRow.map; intro _ _; conv => whnf)
      | (refine CallG.lend call53 [0] (by simp) (by simp) (by simp [isArr, pinsOf, rrR]) (rput_ok t _ _ (by first | omega | (simp only [wt_append, wt_cons, wt_nil, List.length_cons, List.length_nil]; omega) | ((try simp only [putAll_putAll]); refine Nat.le_trans (Nat.add_le_add_right (putAll_len _ _) _) ?_; (try simp only [wt_append, wt_cons, wt_nil, List.length_append, List.length_cons, List.length_nil]); omega))) ?_; rintro _ _ ⟨rfl, rfl⟩; refine ⟨by simp [rrR], ?_⟩; conv => whnf)
      | exact ⟨rfl⟩
      | fail
    all_goals try simp only [Int.toNat_natCast] at *
    all_goals try (refine Side.mk ?_; first | omega | (simp only [size_ba]; omega) | (simp; done) | (simp [hnl]; done))
    all_goals try (exfalso; rename_i hq; rw [e] at hq; exact hq hc58)
    all_goals exact FinRr.mk' (by simp [putAll_putAll])
theorem pickb_ok (t : List Al.Node) (T : Int → List Bytes) (kd : Int) (nm : Bytes) (num : Int) (fr to : Int) (ks : List Int) (k : Int) (hk : KidR t T k) (a b : Bytes) (hnm : nm = a ++ 58 :: 58 :: b) (ha : ∀ c, c ∈ a → c ≠ 58) (hlen : nm.length ≤ 130) : PutsR t 55 [aNode ⟨kd, nm, num, k :: ks, fr, to⟩] (a :: [58, 58] :: b :: [40] :: (T k ++ [[41]])) := by
  refine PutsR.of fun s hb => ?_
  try simp only [wt_append, wt_cons, wt_nil, List.length_cons, List.length_nil] at hb
  refine .run ttab_ok func55 rfl (by kernel_rfl) (by simp [f55]) rfl ?_
  conv => whnf
  repeat' first
    | (intro _; conv => whnf)
    | (apply And.intro <;> (conv => whnf))
    | (refine AllRow.of rfl ?_; conv => whnf)
    | (apply AllRow.map; intro _ _; conv => whnf)
    | exact ⟨rfl⟩
    | fail
  refine LoopG.of ttab_ok [0, 3, 4] [0, 1] (fun (j : Nat) => ⟨[(0, .ptr 0 0 0), (3, .ptr 1 0 0), (4, I j)], rrR t s ++ [.box (cNode ⟨kd, nm, num, k :: ks, fr, to⟩)]⟩) (fun j => j ≤ a.length) (fun j => a.length - j) 0 (by kernel_rfl) (by simp) posOf_first (by simp [rrR]) ?hs (by omega) ?_
  case hs =>
    first
      | (simp only [keepSt, keepE, Al.look, envOf, lend, ren, renL, renR, posOf, List.map_cons, List.map_nil]; done)
      | (simp only [keepSt, keepE, Al.look, envOf, lend, ren, renL, renR, posOf, List.map_cons, List.map_nil]; simp [I, S, B, U8, dI, dS, dB, dU8, dInts, dStrs, dNodes, ren, renL, renR, posOf, Al.look, envOf, rrR, cNode])
      | (simp [keepSt, keepE, lend, I, S, B, U8, dI, dS, dB, dU8, dInts, dStrs, dNodes, ren, renL, renR, posOf, Al.look, envOf, rrR, cNode])
  intro j hj
  have hnl : nm.length = a.length + (b.length + 1 + 1) := by rw [hnm]; simp
  obtain ⟨c, hc, e⟩ := byte_at (l := nm) (i := j) (by omega)
  by_cases hlt : j < a.length
  · have hca : c ∈ a := by
      rw [hnm, List.getElem?_append_left hlt] at hc
      exact List.mem_of_getElem? hc
    have hne : bu c ≠ 58 := fun h => ha c hca (by
      have : c.toNat = 58 := by unfold bu at h; omega
      exact UInt8.toNat_inj.1 this)
    conv => whnf
    repeat' first
      | (intro _; conv => whnf)
      | (apply And.intro <;> (conv => whnf))
      | (refine AllRow.of rfl ?_; conv => whnf)
      | (apply AllRow.map; intro _ _; conv => whnf)
      | exact ⟨rfl⟩
      | fail
    all_goals try simp only [Int.toNat_natCast] at *
    all_goals try (refine Side.mk ?_; first | omega | (simp only [size_ba]; omega))
    · refine RoundG.mk' (j + 1) (by simp) ?_ (by omega) (by omega)
      first
        | (simp only [keepSt, keepE, Al.look, envOf, lend, ren, renL, renR, posOf, List.map_cons, List.map_nil]; done)
        | (simp only [keepSt, keepE, Al.look, envOf, lend, ren, renL, renR, posOf, List.map_cons, List.map_nil]; simp [I, S, B, U8, dI, dS, dB, dU8, dInts, dStrs, dNodes, ren, renL, renR, posOf, Al.look, envOf, rrR, cNode])
        | (simp [keepSt, keepE, lend, I, S, B, U8, dI, dS, dB, dU8, dInts, dStrs, dNodes, ren, renL, renR, posOf, Al.look, envOf, rrR, cNode])
    · rename_i hq
      exfalso
      rw [e] at hq
      exact hq hne
  · have hja : j = a.length := by omega
    subst hja
    have hc58 : bu c = 58 := by
      rw [hnm, List.getElem?_append_right (Nat.le_refl _), Nat.sub_self] at hc
      simp at hc
      subst hc
      rfl
    have x1 : (ba nm).extract 0 a.length = ba a := by
      rw [extract_ba, hnm, List.drop_zero, Nat.sub_zero, List.take_left]
    have x2 : (ba nm).extract (a.length + 2) (ba nm).size = ba b := by
      rw [extract_ba, size_ba, List.take_of_length_le (by rw [List.length_drop]; omega), hnm]
      congr 1
      rw [List.drop_append]
      simp
    conv => whnf
    repeat' first
      | (refine CallG.at [.ptr 0 0 0, S b] ?ha ?_; (case ha => (exact congrArg (fun v => [AV.ptr 0 0 0, AV.d (.con (.string v))]) x2)); refine CallG.lend call53 [0] (by simp) (by simp) (by simp [isArr, pinsOf, rrR]) (rput_ok t b _ (by first | omega | (simp only [wt_append, wt_cons, wt_nil, List.length_cons, List.length_nil]; omega) | ((try simp only [putAll_putAll]); refine Nat.le_trans (Nat.add_le_add_right (putAll_len _ _) _) ?_; (try simp only [wt_append, wt_cons, wt_nil, List.length_append, List.length_cons, List.length_nil]); omega))) ?_; rintro _ _ ⟨rfl, rfl⟩; refine ⟨by simp [rrR], ?_⟩; conv => whnf)
      | (refine CallG.at [.ptr 0 0 0, S a] ?ha ?_; (case ha => (exact congrArg (fun v => [AV.ptr 0 0 0, AV.d (.con (.string v))]) x1)); refine CallG.lend call53 [0] (by simp) (by simp) (by simp [isArr, pinsOf, rrR]) (rput_ok t a _ (by first | omega | (simp only [wt_append, wt_cons, wt_nil, List.length_cons, List.length_nil]; omega) | ((try simp only [putAll_putAll]); refine Nat.le_trans (Nat.add_le_add_right (putAll_len _ _) _) ?_; (try simp only [wt_append, wt_cons, wt_nil, List.length_append, List.length_cons, List.length_nil]); omega))) ?_; rintro _ _ ⟨rfl, rfl⟩; refine ⟨by simp [rrR], ?_⟩; conv => whnf)
      | (intro h; exfalso; revert h; simp; done)
      | (intro _; conv => whnf)
      | (apply And.intro <;> (conv => whnf))
      | (refine AllRow.of rfl ?_; conv => whnf)
      | (apply AllRow.map; intro _ _; conv => whnf)
      | (refine CallG.lend call53 [0] (by simp) (by simp) (by simp [isArr, pinsOf, rrR]) (rput_ok t _ _ (by first | omega | (simp only [wt_append, wt_cons, wt_nil, List.length_cons, List.length_nil]; omega) | ((try simp only [putAll_putAll]); refine Nat.le_trans (Nat.add_le_add_right (putAll_len _ _) _) ?_; (try simp only [wt_append, wt_cons, wt_nil, List.length_append, List.length_cons, List.length_nil]); omega))) ?_; rintro _ _ ⟨rfl, rfl⟩; refine ⟨by simp [rrR], ?_⟩; conv => whnf)
      | (refine CallG.lend call26 [0] (by simp) (by simp) (by simp [isArr, pinsOf, rrR]) (hk.put _ (by first | omega | (simp only [wt_append, wt_cons, wt_nil, List.length_cons, List.length_nil]; omega) | ((try simp only [putAll_putAll]); refine Nat.le_trans (Nat.add_le_add_right (putAll_len _ _) _) ?_; (try simp only [wt_append, wt_cons, wt_nil, List.length_append, List.length_cons, List.length_nil]); omega))) ?_; rintro _ _ ⟨rfl, rfl⟩; refine ⟨by simp [rrR], ?_⟩; conv => whnf)
      | exact ⟨rfl⟩
      | fail
    all_goals try simp only [Int.toNat_natCast] at *
    all_goals try (refine Side.mk ?_; first | omega | (simp only [size_ba]; omega) | (simp; done) | (simp [hnl]; done))
    all_goals try (exfalso; rename_i hq; rw [e] at hq; exact hq hc58)
    all_goals exact FinRr.mk' (by simp [putAll_putAll])
end Go.Proofs.Tryz
