/-
  FrameNames: the walk.
-/
import Derived.Test.YtgoldgamjogadaaGreatMgN15
import Derived.Great.BuildSlice
import Derived.Deep.DeepCutAuto
namespace Go.Proofs.YtgoldgamjogadaaGreat
open Go.RowKit Go
set_option maxRecDepth 100000
attribute [local go_sem] bs_toList bs_size bs_get
attribute [local irreducible] kAll
attribute [local go_sem] kQuiet kQuietUpon

theorem info2 {e : TypeId} {z : Value} {n : Nat} (h : (Tryz.prog.info? e).map (fun i => (i.zero, i.size)) = some (some z, n)) : ∃ i, Tryz.prog.info? e = some i ∧ i.zero = some z ∧ i.size = n := by
  cases hi : Tryz.prog.info? e with
  | none => rw [hi] at h; cases h
  | some i =>
    rw [hi] at h
    simp only [Option.map_some, Option.some.injEq, Prod.mk.injEq] at h
    exact ⟨i, rfl, h.1, h.2⟩
theorem info40 : (Tryz.prog.info? 40).map (fun i => (i.zero, i.size)) = some (some (.agg #[.int .u8 0, .int .i64 0, .int .i64 0, .int .i64 0, .int .i64 0, .int .i64 0, .int .i64 0, .int .i64 0, .int .i64 0, .slice none 0 0, .slice none 0 0, .slice none 0 0, .slice none 0 0, .slice none 0 0, .bool false, .bool false, .bool false, .bool false, .bool false, .int .i64 0]), 20) := by kernel_rfl
theorem info43 : (Tryz.prog.info? 43).map (fun i => (i.zero, i.size)) = some (some (.agg #[.int .u8 0, .int .i64 0, .int .i64 0, .int .i64 0, .int .i64 0, .int .i64 0, .int .i64 0, .int .i64 0, .int .i64 0, .slice none 0 0, .slice none 0 0, .slice none 0 0, .slice none 0 0, .slice none 0 0, .bool false]), 15) := by kernel_rfl
theorem info39 : (Tryz.prog.info? 39).map (fun i => (i.zero, i.size)) = some (some (.agg #[.int .u8 0, .int .i64 0, .int .i64 0, .int .i64 0, .int .i64 0, .int .i64 0, .int .i64 0, .int .i64 0, .int .i64 0, .slice none 0 0, .slice none 0 0, .slice none 0 0, .slice none 0 0, .slice none 0 0]), 14) := by kernel_rfl
theorem isV_v {w : World} {gC gS : Nat} (hC : Blk w gC 27 #[.int .i64 1, .int .i64 1, .int .i64 1099511627776]) (hS : Blk w gS 24 #[.int .i64 3, .int .i64 1]) : IsV w (.slice none 0 0) (.slice none 0 0) (.slice none 0 0) (.slice (some ⟨gC, 0, none⟩) 1 1) (.slice (some ⟨gS, 0, none⟩) 1 1) vM :=
  ⟨(isV_empty w).mem, (isV_empty w).fl, (isV_empty w).rows, ⟨_, 1, 1, rfl, rfl, RdK.of_blk hC 1 3 rfl⟩, ⟨_, 1, 1, rfl, rfl, RdK.of_blk hS 1 2 rfl⟩, fun x hx => by simp [vM] at hx⟩
theorem isV_a {w : World} {gC gS gM gF gN gR : Nat} (hC : Blk w gC 27 #[.int .i64 1, .int .i64 1, .int .i64 1099511627776]) (hS : Blk w gS 24 #[.int .i64 3, .int .i64 1]) (hM : Blk w gM 35 #[.int .i64 1, .int .i64 1, .int .u8 6, .int .i64 7, .int .i64 2, .int .i64 5, .int .u8 1, .int .i64 0])
    (hF : Blk w gF 24 #[.int .i64 2, .int .i64 4, .int .i64 9, .int .i64 1048576]) (hN : Blk w gN 24 #[.int .i64 2, .int .i64 5]) (hR : Blk w gR 37 #[.int .i64 1, .int .i64 1, .int .i64 3, .slice (some ⟨gN, 0, none⟩) 1 1, .int .i64 2, .int .i64 5, .int .i64 1, .slice none 0 0]) :
    IsV w (.slice (some ⟨gM, 0, none⟩) 2 2) (.slice (some ⟨gF, 0, none⟩) 2 2) (.slice (some ⟨gR, 0, none⟩) 2 2) (.slice (some ⟨gC, 0, none⟩) 1 1) (.slice (some ⟨gS, 0, none⟩) 1 1) allM :=
  ⟨⟨_, 2, 2, rfl, rfl, RdK.of_blk hM 2 4 rfl⟩, ⟨_, 2, 2, rfl, rfl, RdK.of_blk hF 2 2 rfl⟩, ⟨_, 2, 2, rfl, rfl, fun i hi => by
    rcases (by omega : i = 0 ∨ i = 1) with rfl | rfl
    · exact ⟨gR, 0, _, rfl, (hR.cell 0).trans rfl, (hR.cell 1).trans rfl, (hR.cell 2).trans rfl, (hR.cell 3).trans rfl, _, 1, 1, rfl, rfl, RdK.of_blk hN 1 2 rfl⟩
    · exact ⟨gR, 0, _, rfl, (hR.cell 4).trans rfl, (hR.cell 5).trans rfl, (hR.cell 6).trans rfl, (hR.cell 7).trans rfl, none, 0, 0, rfl, rfl, rfl, fun j hj => by omega⟩⟩, ⟨_, 1, 1, rfl, rfl, RdK.of_blk hC 1 3 rfl⟩, ⟨_, 1, 1, rfl, rfl, RdK.of_blk hS 1 2 rfl⟩,
    fun x hx => by
      have hx : x ∈ [(⟨1, 1, 6, 7⟩ : Mem), ⟨2, 5, 1, 0⟩] := hx
      rcases List.mem_cons.1 hx with rfl | hx
      · simp
      · rcases List.mem_cons.1 hx with rfl | hx
        · simp
        · cases hx⟩
theorem row_of (L : List Value) (m n j : Nat) (v : Value) (h : ((L.drop m).take n)[j]? = some v) : L[m + j]? = some v := by
  rw [List.getElem?_take] at h
  split at h
  · rw [List.getElem?_drop] at h; exact h
  · cases h
theorem size40 : (Tryz.prog.info? 40).map (·.size) = some 20 := by kernel_rfl
theorem size39 : (Tryz.prog.info? 39).map (·.size) = some 14 := by kernel_rfl
theorem size33 : (Tryz.prog.info? 33).map (·.size) = some 5 := by kernel_rfl
theorem one40 (kd : Nat) (b1 b2 b3 b4 b5 : Bool) (nv : Int) : (#[.int .u8 (kd : Int), .int .i64 0, .int .i64 0, .int .i64 0, .int .i64 0, .int .i64 0, .int .i64 0, .int .i64 0, .int .i64 0, .slice none 0 0, .slice none 0 0, .slice none 0 0, .slice none 0 0, .slice none 0 0, .bool b1, .bool b2, .bool b3, .bool b4, .bool b5, .int .i64 nv] : Array Value).all (·.oneCell') = true := by kernel_rfl
theorem one39 (kd : Nat) (f1 f2 t1 t2 a1 a2 : Int) : (#[.int .u8 (kd : Int), .int .i64 f1, .int .i64 f2, .int .i64 t1, .int .i64 t2, .int .i64 0, .int .i64 0, .int .i64 a1, .int .i64 a2, .slice none 0 0, .slice none 0 0, .slice none 0 0, .slice none 0 0, .slice none 0 0] : Array Value).all (·.oneCell') = true := by kernel_rfl
theorem keepgf {W U V : World} {gf : Nat} (h : Keep (fun _ => False) W U) (hg : W.heap.size ≤ gf) (k : Keep (fun g => g = gf) U V) : Keep (fun _ => False) W V := h.trans (k.mono fun g _ e => .inr (by rw [e]; exact hg))
theorem may_is (f : FrM) (b : Bool) (hb : mayF f = b) (m l r c s : Value) (w : World) (hk : f.kind < 256) (hv : IsV w m l r c s f.view) (hf : Few f.view) :
    Calls Tryz.prog 7 #[frV f m l r c s] w (Tell (.bool b) w) := by rw [← hb]; exact frameMay_any f m l r c s w hk hv hf
theorem bl24_01 (x y : Int) : Tryz.prog.built 24 [(0, .int .i64 x), (1, .int .i64 y)] = some #[.int .i64 x, .int .i64 y] := by kernel_rfl
theorem bl24_0 (x : Int) : Tryz.prog.built 24 [(0, .int .i64 x)] = some #[.int .i64 x, .int .i64 0] := by kernel_rfl
theorem bl39_ : Tryz.prog.built 39 [] = some #[.int .u8 0, .int .i64 0, .int .i64 0, .int .i64 0, .int .i64 0, .int .i64 0, .int .i64 0, .int .i64 0, .int .i64 0, .slice none 0 0, .slice none 0 0, .slice none 0 0, .slice none 0 0, .slice none 0 0] := by kernel_rfl
theorem bl39_0 (k : Int) : Tryz.prog.built 39 [(0, .int .u8 k)] = some #[.int .u8 k, .int .i64 0, .int .i64 0, .int .i64 0, .int .i64 0, .int .i64 0, .int .i64 0, .int .i64 0, .int .i64 0, .slice none 0 0, .slice none 0 0, .slice none 0 0, .slice none 0 0, .slice none 0 0] := by kernel_rfl
theorem bl39_012 (k x y u v : Int) : Tryz.prog.built 39 [(0, .int .u8 k), (1, .agg #[.int .i64 x, .int .i64 y]), (2, .agg #[.int .i64 u, .int .i64 v])] = some #[.int .u8 k, .int .i64 x, .int .i64 y, .int .i64 u, .int .i64 v, .int .i64 0, .int .i64 0, .int .i64 0, .int .i64 0, .slice none 0 0, .slice none 0 0, .slice none 0 0, .slice none 0 0, .slice none 0 0] := by kernel_rfl
theorem bl39_02 (k u v : Int) : Tryz.prog.built 39 [(0, .int .u8 k), (2, .agg #[.int .i64 u, .int .i64 v])] = some #[.int .u8 k, .int .i64 0, .int .i64 0, .int .i64 u, .int .i64 v, .int .i64 0, .int .i64 0, .int .i64 0, .int .i64 0, .slice none 0 0, .slice none 0 0, .slice none 0 0, .slice none 0 0, .slice none 0 0] := by kernel_rfl
theorem bl39_01 (k x y : Int) : Tryz.prog.built 39 [(0, .int .u8 k), (1, .agg #[.int .i64 x, .int .i64 y])] = some #[.int .u8 k, .int .i64 x, .int .i64 y, .int .i64 0, .int .i64 0, .int .i64 0, .int .i64 0, .int .i64 0, .int .i64 0, .slice none 0 0, .slice none 0 0, .slice none 0 0, .slice none 0 0, .slice none 0 0] := by kernel_rfl
theorem bl40_0123456 (k : Int) (b1 b2 b3 b4 b5 : Bool) (n : Int) : Tryz.prog.built 40 [(0, .agg #[.int .u8 k, .int .i64 0, .int .i64 0, .int .i64 0, .int .i64 0, .int .i64 0, .int .i64 0, .int .i64 0, .int .i64 0, .slice none 0 0, .slice none 0 0, .slice none 0 0, .slice none 0 0, .slice none 0 0]), (1, .bool b1), (2, .bool b2), (3, .bool b3), (4, .bool b4), (5, .bool b5), (6, .int .i64 n)] = some #[.int .u8 k, .int .i64 0, .int .i64 0, .int .i64 0, .int .i64 0, .int .i64 0, .int .i64 0, .int .i64 0, .int .i64 0, .slice none 0 0, .slice none 0 0, .slice none 0 0, .slice none 0 0, .slice none 0 0, .bool b1, .bool b2, .bool b3, .bool b4, .bool b5, .int .i64 n] := by kernel_rfl
theorem bl43_01 (kd : Nat) (f1 f2 t1 t2 a1 a2 : Int) (b : Bool) : Tryz.prog.built 43 [(0, .agg #[.int .u8 (kd : Int), .int .i64 f1, .int .i64 f2, .int .i64 t1, .int .i64 t2, .int .i64 0, .int .i64 0, .int .i64 a1, .int .i64 a2, .slice none 0 0, .slice none 0 0, .slice none 0 0, .slice none 0 0, .slice none 0 0]), (1, .bool b)] = some #[.int .u8 (kd : Int), .int .i64 f1, .int .i64 f2, .int .i64 t1, .int .i64 t2, .int .i64 0, .int .i64 0, .int .i64 a1, .int .i64 a2, .slice none 0 0, .slice none 0 0, .slice none 0 0, .slice none 0 0, .slice none 0 0, .bool b] := by kernel_rfl
theorem tab_at {w : World} {g : Nat} (h : Blk w g 40 #[.int .u8 1, .int .i64 0, .int .i64 0, .int .i64 0, .int .i64 0, .int .i64 0, .int .i64 0, .int .i64 0, .int .i64 0, .slice none 0 0, .slice none 0 0, .slice none 0 0, .slice none 0 0, .slice none 0 0, .bool true, .bool true, .bool false, .bool false, .bool false, .int .i64 0, .int .u8 2, .int .i64 0, .int .i64 0, .int .i64 0, .int .i64 0, .int .i64 0, .int .i64 0, .int .i64 0, .int .i64 0, .slice none 0 0, .slice none 0 0, .slice none 0 0, .slice none 0 0, .slice none 0 0, .bool true, .bool true, .bool false, .bool false, .bool false, .int .i64 2, .int .u8 3, .int .i64 0, .int .i64 0, .int .i64 0, .int .i64 0, .int .i64 0, .int .i64 0, .int .i64 0, .int .i64 0, .slice none 0 0, .slice none 0 0, .slice none 0 0, .slice none 0 0, .slice none 0 0, .bool true, .bool true, .bool false, .bool false, .bool false, .int .i64 1, .int .u8 4, .int .i64 0, .int .i64 0, .int .i64 0, .int .i64 0, .int .i64 0, .int .i64 0, .int .i64 0, .int .i64 0, .slice none 0 0, .slice none 0 0, .slice none 0 0, .slice none 0 0, .slice none 0 0, .bool true, .bool true, .bool false, .bool false, .bool false, .int .i64 2, .int .u8 5, .int .i64 0, .int .i64 0, .int .i64 0, .int .i64 0, .int .i64 0, .int .i64 0, .int .i64 0, .int .i64 0, .slice none 0 0, .slice none 0 0, .slice none 0 0, .slice none 0 0, .slice none 0 0, .bool true, .bool true, .bool true, .bool false, .bool false, .int .i64 0, .int .u8 6, .int .i64 0, .int .i64 0, .int .i64 0, .int .i64 0, .int .i64 0, .int .i64 0, .int .i64 0, .int .i64 0, .slice none 0 0, .slice none 0 0, .slice none 0 0, .slice none 0 0, .slice none 0 0, .bool true, .bool true, .bool true, .bool false, .bool false, .int .i64 0, .int .u8 7, .int .i64 0, .int .i64 0, .int .i64 0, .int .i64 0, .int .i64 0, .int .i64 0, .int .i64 0, .int .i64 0, .slice none 0 0, .slice none 0 0, .slice none 0 0, .slice none 0 0, .slice none 0 0, .bool true, .bool true, .bool false, .bool false, .bool true, .int .i64 0, .int .u8 8, .int .i64 0, .int .i64 0, .int .i64 0, .int .i64 0, .int .i64 0, .int .i64 0, .int .i64 0, .int .i64 0, .slice none 0 0, .slice none 0 0, .slice none 0 0, .slice none 0 0, .slice none 0 0, .bool true, .bool true, .bool false, .bool false, .bool true, .int .i64 0, .int .u8 9, .int .i64 0, .int .i64 0, .int .i64 0, .int .i64 0, .int .i64 0, .int .i64 0, .int .i64 0, .int .i64 0, .slice none 0 0, .slice none 0 0, .slice none 0 0, .slice none 0 0, .slice none 0 0, .bool true, .bool false, .bool true, .bool false, .bool false, .int .i64 0, .int .u8 10, .int .i64 0, .int .i64 0, .int .i64 0, .int .i64 0, .int .i64 0, .int .i64 0, .int .i64 0, .int .i64 0, .slice none 0 0, .slice none 0 0, .slice none 0 0, .slice none 0 0, .slice none 0 0, .bool true, .bool false, .bool true, .bool true, .bool false, .int .i64 0, .int .u8 11, .int .i64 0, .int .i64 0, .int .i64 0, .int .i64 0, .int .i64 0, .int .i64 0, .int .i64 0, .int .i64 0, .slice none 0 0, .slice none 0 0, .slice none 0 0, .slice none 0 0, .slice none 0 0, .bool true, .bool false, .bool false, .bool true, .bool false, .int .i64 0, .int .u8 12, .int .i64 0, .int .i64 0, .int .i64 0, .int .i64 0, .int .i64 0, .int .i64 0, .int .i64 0, .int .i64 0, .slice none 0 0, .slice none 0 0, .slice none 0 0, .slice none 0 0, .slice none 0 0, .bool false, .bool true, .bool true, .bool true, .bool false, .int .i64 0, .int .u8 13, .int .i64 0, .int .i64 0, .int .i64 0, .int .i64 0, .int .i64 0, .int .i64 0, .int .i64 0, .int .i64 0, .slice none 0 0, .slice none 0 0, .slice none 0 0, .slice none 0 0, .slice none 0 0, .bool false, .bool true, .bool true, .bool false, .bool false, .int .i64 0]) {k : Nat} (hk : k < 13) : ∃ (kd : Nat) (b1 b2 b3 b4 b5 : Bool) (nv : Int), kd = k + 1 ∧ b1 = bFr k ∧ b2 = bTo k ∧ b3 = bN k ∧ b4 = bTk k ∧ b5 = bAb k ∧ nv = nVw k ∧
    ∀ j v, ([.int .u8 (kd : Int), .int .i64 0, .int .i64 0, .int .i64 0, .int .i64 0, .int .i64 0, .int .i64 0, .int .i64 0, .int .i64 0, .slice none 0 0, .slice none 0 0, .slice none 0 0, .slice none 0 0, .slice none 0 0, .bool b1, .bool b2, .bool b3, .bool b4, .bool b5, .int .i64 nv] : List Value)[j]? = some v → w.cell? ⟨g, k * 20 + j, none⟩ = some v := by
  rcases (by omega : k = 0 ∨ k = 1 ∨ k = 2 ∨ k = 3 ∨ k = 4 ∨ k = 5 ∨ k = 6 ∨ k = 7 ∨ k = 8 ∨ k = 9 ∨ k = 10 ∨ k = 11 ∨ k = 12) with rfl | rfl | rfl | rfl | rfl | rfl | rfl | rfl | rfl | rfl | rfl | rfl | rfl
  all_goals exact ⟨_, _, _, _, _, _, _, rfl, rfl, rfl, rfl, rfl, rfl, rfl, fun j v hj => by rw [h.cell]; exact (List.getElem?_toArray ..).trans (row_of _ _ 20 j v hj)⟩
/-- as kAll_skip, the frame to be reckoned anew -/
theorem kAll_skipn {P : Program} {ops : Array Oper} {R : World → World → Prop} {W0 : World} {Q : Act → World → Prop} {k : Nat} {o : Oper} {l : List Oper} {Ts : List KSpec} {a : Act} {F : List (Nat × (World → Prop))} (hw : Region.wanted o (yielded ops a.tmps) = false)
    (hr : ∀ K : Act → Prop, (∀ a', kAll P ops R W0 Q (k + 1) l Ts a' F → K a') → K (a.put o.dst undef)) : kAll P ops R W0 Q k (o :: l) (none :: Ts) a F := kAll_skip hw (hr _ (fun _ h => h))
def isBv (b1 b2 b3 b4 b5 b6 b7 : Bool) (i : Nat) : Bool := [true, b3, b4, b1, b2, b5, b6, b7, false, false, false].getD i false
def nl5 : Value × Value × Value × Value × Value := (.slice none 0 0, .slice none 0 0, .slice none 0 0, .slice none 0 0, .slice none 0 0)
def sl5 (gC gS gM gF gR gz : Nat) (i : Nat) : Value × Value × Value × Value × Value :=
  [nl5, nl5, nl5, nl5, nl5, nl5, (.slice none 0 0, .slice none 0 0, .slice none 0 0, .slice (some ⟨gC, 0, none⟩) 1 1, .slice (some ⟨gS, 0, none⟩) 1 1), (.slice (some ⟨gM, 0, none⟩) 2 2, .slice (some ⟨gF, 0, none⟩) 2 2, .slice (some ⟨gR, 0, none⟩) 2 2, .slice (some ⟨gC, 0, none⟩) 1 1, .slice (some ⟨gS, 0, none⟩) 1 1), nl5, nl5, (.slice none 0 0, .slice none 0 0, .slice none 0 0, .slice none 0 0, .slice (some ⟨gz, 0, none⟩) 2 2)].getD i nl5
theorem pre15 {A B : List Value} {j : Nat} {v : Value} (h : A[j]? = some v) : (A ++ B)[j]? = some v := by
  rw [List.getElem?_append_left (List.getElem?_eq_some_iff.1 h).1]; exact h
theorem oneF (f : FrM) : ((cFr f (.slice none 0 0) (.slice none 0 0) (.slice none 0 0) (.slice none 0 0) (.slice none 0 0)).toArray).all (·.oneCell') = true := by kernel_rfl
theorem with_rows {w : World} {gw gC gS gM gF gR gz : Nat} (kd : Nat) (f1 f2 t1 t2 a1 a2 : Int) (b1 b2 b3 b4 b5 b6 b7 : Bool) (h : Blk w gw 43 #[.int .u8 (kd : Int), .int .i64 f1, .int .i64 f2, .int .i64 t1, .int .i64 t2, .int .i64 0, .int .i64 0, .int .i64 a1, .int .i64 a2, .slice none 0 0, .slice none 0 0, .slice none 0 0, .slice none 0 0, .slice none 0 0, .bool true, .int .u8 (kd : Int), .int .i64 f1, .int .i64 f2, .int .i64 t1, .int .i64 t2, .int .i64 1099511627776, .int .i64 0, .int .i64 a1, .int .i64 a2, .slice none 0 0, .slice none 0 0, .slice none 0 0, .slice none 0 0, .slice none 0 0, .bool b3, .int .u8 (kd : Int), .int .i64 f1, .int .i64 f2, .int .i64 t1, .int .i64 t2, .int .i64 0, .int .i64 9, .int .i64 a1, .int .i64 a2, .slice none 0 0, .slice none 0 0, .slice none 0 0, .slice none 0 0, .slice none 0 0, .bool b4, .int .u8 (kd : Int), .int .i64 12, .int .i64 1, .int .i64 t1, .int .i64 t2, .int .i64 0, .int .i64 0, .int .i64 a1, .int .i64 a2, .slice none 0 0, .slice none 0 0, .slice none 0 0, .slice none 0 0, .slice none 0 0, .bool b1, .int .u8 (kd : Int), .int .i64 f1, .int .i64 f2, .int .i64 12, .int .i64 1, .int .i64 0, .int .i64 0, .int .i64 a1, .int .i64 a2, .slice none 0 0, .slice none 0 0, .slice none 0 0, .slice none 0 0, .slice none 0 0, .bool b2, .int .u8 (kd : Int), .int .i64 f1, .int .i64 f2, .int .i64 t1, .int .i64 t2, .int .i64 0, .int .i64 0, .int .i64 12, .int .i64 1, .slice none 0 0, .slice none 0 0, .slice none 0 0, .slice none 0 0, .slice none 0 0, .bool b5, .int .u8 (kd : Int), .int .i64 f1, .int .i64 f2, .int .i64 t1, .int .i64 t2, .int .i64 0, .int .i64 0, .int .i64 a1, .int .i64 a2, .slice none 0 0, .slice none 0 0, .slice none 0 0, .slice (some ⟨gC, 0, none⟩) 1 1, .slice (some ⟨gS, 0, none⟩) 1 1, .bool b6, .int .u8 (kd : Int), .int .i64 f1, .int .i64 f2, .int .i64 t1, .int .i64 t2, .int .i64 0, .int .i64 0, .int .i64 a1, .int .i64 a2, .slice (some ⟨gM, 0, none⟩) 2 2, .slice (some ⟨gF, 0, none⟩) 2 2, .slice (some ⟨gR, 0, none⟩) 2 2, .slice (some ⟨gC, 0, none⟩) 1 1, .slice (some ⟨gS, 0, none⟩) 1 1, .bool b7, .int .u8 (kd : Int), .int .i64 f1, .int .i64 f2, .int .i64 t1, .int .i64 t2, .int .i64 1099511627777, .int .i64 0, .int .i64 a1, .int .i64 a2, .slice none 0 0, .slice none 0 0, .slice none 0 0, .slice none 0 0, .slice none 0 0, .bool false, .int .u8 (kd : Int), .int .i64 f1, .int .i64 f2, .int .i64 t1, .int .i64 t2, .int .i64 0, .int .i64 (-1), .int .i64 a1, .int .i64 a2, .slice none 0 0, .slice none 0 0, .slice none 0 0, .slice none 0 0, .slice none 0 0, .bool false, .int .u8 (kd : Int), .int .i64 f1, .int .i64 f2, .int .i64 t1, .int .i64 t2, .int .i64 0, .int .i64 0, .int .i64 a1, .int .i64 a2, .slice none 0 0, .slice none 0 0, .slice none 0 0, .slice none 0 0, .slice (some ⟨gz, 0, none⟩) 2 2, .bool false]) (hv : IsV w (.slice none 0 0) (.slice none 0 0) (.slice none 0 0) (.slice (some ⟨gC, 0, none⟩) 1 1) (.slice (some ⟨gS, 0, none⟩) 1 1) vM)
    (ha : IsV w (.slice (some ⟨gM, 0, none⟩) 2 2) (.slice (some ⟨gF, 0, none⟩) 2 2) (.slice (some ⟨gR, 0, none⟩) 2 2) (.slice (some ⟨gC, 0, none⟩) 1 1) (.slice (some ⟨gS, 0, none⟩) 1 1) allM) (hz : Blk w gz 24 #[.int .i64 2, .int .i64 1, .int .i64 1, .int .i64 1]) {i : Nat} (hi : i < 11) :
    (∀ j v, (cFr (withF ⟨kd, (f1, f2), (t1, t2), 0, 0, (a1, a2), emptyVw⟩ i) (sl5 gC gS gM gF gR gz i).1 (sl5 gC gS gM gF gR gz i).2.1 (sl5 gC gS gM gF gR gz i).2.2.1 (sl5 gC gS gM gF gR gz i).2.2.2.1 (sl5 gC gS gM gF gR gz i).2.2.2.2 ++ [.bool (isBv b1 b2 b3 b4 b5 b6 b7 i)])[j]? = some v → w.cell? ⟨gw, i * 15 + j, none⟩ = some v) ∧
    IsV w (sl5 gC gS gM gF gR gz i).1 (sl5 gC gS gM gF gR gz i).2.1 (sl5 gC gS gM gF gR gz i).2.2.1 (sl5 gC gS gM gF gR gz i).2.2.2.1 (sl5 gC gS gM gF gR gz i).2.2.2.2 (withF ⟨kd, (f1, f2), (t1, t2), 0, 0, (a1, a2), emptyVw⟩ i).view := by
  constructor
  · intro j v hj
    rw [h.cell]
    refine (List.getElem?_toArray ..).trans (row_of _ (i * 15) 15 j v ?_)
    rw [← hj]
    congr 1
    rcases (by omega : i = 0 ∨ i = 1 ∨ i = 2 ∨ i = 3 ∨ i = 4 ∨ i = 5 ∨ i = 6 ∨ i = 7 ∨ i = 8 ∨ i = 9 ∨ i = 10) with rfl | rfl | rfl | rfl | rfl | rfl | rfl | rfl | rfl | rfl | rfl
    all_goals kernel_rfl
  · rcases (by omega : i = 0 ∨ i = 1 ∨ i = 2 ∨ i = 3 ∨ i = 4 ∨ i = 5 ∨ i = 6 ∨ i = 7 ∨ i = 8 ∨ i = 9 ∨ i = 10) with rfl | rfl | rfl | rfl | rfl | rfl | rfl | rfl | rfl | rfl | rfl
    · exact isV_empty w
    · exact isV_empty w
    · exact isV_empty w
    · exact isV_empty w
    · exact isV_empty w
    · exact isV_empty w
    · exact hv
    · exact ha
    · exact isV_empty w
    · exact isV_empty w
    · exact ⟨(isV_empty w).mem, (isV_empty w).fl, (isV_empty w).rows, (isV_empty w).clk, ⟨_, 2, 2, rfl, rfl, RdK.of_blk hz 2 2 rfl⟩, fun x hx => by simp [withF, sM] at hx⟩
def wrongF (q : Nat) : FrM := ([⟨0, (0, 0), (0, 0), 0, 0, (0, 0), emptyVw⟩, ⟨14, (4, 1), (5, 0), 0, 0, (0, 0), emptyVw⟩, ⟨1, (0, 0), (5, 0), 0, 0, (0, 0), emptyVw⟩, ⟨1, (4, 1), (0, 0), 0, 0, (0, 0), emptyVw⟩, ⟨1, (4, 1), (13, 0), 0, 0, (0, 0), emptyVw⟩, ⟨1, (4, 1), (1, (-1)), 0, 0, (0, 0), emptyVw⟩, ⟨7, (4, 1), (5, 0), 0, 0, (0, 0), emptyVw⟩] : List FrM).getD q zeroF
theorem wrong_may : ∀ q, q < 7 → mayF (wrongF q) = false := by
  intro q hq
  rcases (by omega : q = 0 ∨ q = 1 ∨ q = 2 ∨ q = 3 ∨ q = 4 ∨ q = 5 ∨ q = 6) with rfl | rfl | rfl | rfl | rfl | rfl | rfl
  all_goals rw [mayF_b (b := true) may_empty]
  all_goals decide +kernel
theorem wrong_view : ∀ q, q < 7 → (wrongF q).view = emptyVw := by decide +kernel
theorem wrong_kind : ∀ q, q < 7 → (wrongF q).kind < 256 := by decide +kernel
theorem wrong_at {w : World} {g : Nat} (h : Blk w g 39 #[.int .u8 0, .int .i64 0, .int .i64 0, .int .i64 0, .int .i64 0, .int .i64 0, .int .i64 0, .int .i64 0, .int .i64 0, .slice none 0 0, .slice none 0 0, .slice none 0 0, .slice none 0 0, .slice none 0 0, .int .u8 14, .int .i64 4, .int .i64 1, .int .i64 5, .int .i64 0, .int .i64 0, .int .i64 0, .int .i64 0, .int .i64 0, .slice none 0 0, .slice none 0 0, .slice none 0 0, .slice none 0 0, .slice none 0 0, .int .u8 1, .int .i64 0, .int .i64 0, .int .i64 5, .int .i64 0, .int .i64 0, .int .i64 0, .int .i64 0, .int .i64 0, .slice none 0 0, .slice none 0 0, .slice none 0 0, .slice none 0 0, .slice none 0 0, .int .u8 1, .int .i64 4, .int .i64 1, .int .i64 0, .int .i64 0, .int .i64 0, .int .i64 0, .int .i64 0, .int .i64 0, .slice none 0 0, .slice none 0 0, .slice none 0 0, .slice none 0 0, .slice none 0 0, .int .u8 1, .int .i64 4, .int .i64 1, .int .i64 13, .int .i64 0, .int .i64 0, .int .i64 0, .int .i64 0, .int .i64 0, .slice none 0 0, .slice none 0 0, .slice none 0 0, .slice none 0 0, .slice none 0 0, .int .u8 1, .int .i64 4, .int .i64 1, .int .i64 1, .int .i64 (-1), .int .i64 0, .int .i64 0, .int .i64 0, .int .i64 0, .slice none 0 0, .slice none 0 0, .slice none 0 0, .slice none 0 0, .slice none 0 0, .int .u8 7, .int .i64 4, .int .i64 1, .int .i64 5, .int .i64 0, .int .i64 0, .int .i64 0, .int .i64 0, .int .i64 0, .slice none 0 0, .slice none 0 0, .slice none 0 0, .slice none 0 0, .slice none 0 0]) {q : Nat} (hq : q < 7) : ∀ j v, (cFr (wrongF q) (.slice none 0 0) (.slice none 0 0) (.slice none 0 0) (.slice none 0 0) (.slice none 0 0))[j]? = some v → w.cell? ⟨g, q * 14 + j, none⟩ = some v := by
  intro j v hj
  rw [h.cell]
  refine (List.getElem?_toArray ..).trans (row_of _ (q * 14) 14 j v ?_)
  rw [← hj]
  congr 1
  rcases (by omega : q = 0 ∨ q = 1 ∨ q = 2 ∨ q = 3 ∨ q = 4 ∨ q = 5 ∨ q = 6) with rfl | rfl | rfl | rfl | rfl | rfl | rfl
  all_goals kernel_rfl
set_option maxHeartbeats 32000000 in
theorem frameNames_tell (w : World) : Calls Tryz.prog 3 #[] w (Tell (.bool true) w) := by
  obtain ⟨i40, q0, q1, q2⟩ := info2 info40
  have HQ40 := Lib.hid q0
  have HY40 := Lib.hid q1
  have HX40 := Lib.hid q2
  clear q0 q1 q2
  obtain ⟨i43, q0, q1, q2⟩ := info2 info43
  have HQ43 := Lib.hid q0
  have HY43 := Lib.hid q1
  have HX43 := Lib.hid q2
  clear q0 q1 q2
  obtain ⟨i39, q0, q1, q2⟩ := info2 info39
  have HQ39 := Lib.hid q0
  have HY39 := Lib.hid q1
  have HX39 := Lib.hid q2
  clear q0 q1 q2
  go_enter Tryz.func3, Tryz.ntmps3
  have KK := Lib.hid (Keep.refl (fun _ => False) w)
  go_wp2_with fail
  refine (works_any _).mono ?_
  rintro e W1 ⟨rfl, hk⟩
  replace KK := Lib.hid (keep0_trans _ _ _ KK.out hk)
  clear hk
  go_wp2_with fail
  refine (of_any 1 _).mono ?_
  rintro e W2 ⟨rfl, hk⟩
  replace KK := Lib.hid (keep0_trans _ _ _ KK.out hk)
  clear hk
  obtain ⟨V3, hV3⟩ : ∃ V, W2.alloc (.cells #[.int .i64 1, .int .i64 1, .int .i64 1099511627776] 27) = V := ⟨_, rfl⟩
  have hb : Blk V3 W2.heap.size 27 #[.int .i64 1, .int .i64 1, .int .i64 1099511627776] := by rw [← hV3]; exact Blk.new _ _ _
  have hk : Keep (fun _ => False) W2 V3 := by rw [← hV3]; exact (Keep.refl _ _).alloc _
  replace KK := Lib.hid (keep0_trans _ _ _ KK.out hk)
  have HC := Lib.hid hb
  clear hb hk
  go_wp2_with fail
  refine (of_any 3 _).mono ?_
  rintro e W4 ⟨rfl, hk⟩
  replace HC := Lib.hid (HC.out.keep hk (fun h => h))
  replace KK := Lib.hid (keep0_trans _ _ _ KK.out hk)
  clear hk
  obtain ⟨V5, hV5⟩ : ∃ V, W4.alloc (.cells #[.int .i64 3, .int .i64 1] 24) = V := ⟨_, rfl⟩
  have hb : Blk V5 W4.heap.size 24 #[.int .i64 3, .int .i64 1] := by rw [← hV5]; exact Blk.new _ _ _
  have hk : Keep (fun _ => False) W4 V5 := by rw [← hV5]; exact (Keep.refl _ _).alloc _
  replace HC := Lib.hid (HC.out.keep hk (fun h => h))
  replace KK := Lib.hid (keep0_trans _ _ _ KK.out hk)
  have HS := Lib.hid hb
  clear hb hk
  go_upto_region 4 with (fail)
  have hb := Blk.new V5 33 #[.slice none 0 0, .slice none 0 0, .slice none 0 0, .slice (some ⟨W2.heap.size, 0, none⟩) 1 1, .slice (some ⟨W4.heap.size, 0, none⟩) 1 1]
  have hk := (Keep.refl (fun _ => False) V5).alloc (.cells #[.slice none 0 0, .slice none 0 0, .slice none 0 0, .slice (some ⟨W2.heap.size, 0, none⟩) 1 1, .slice (some ⟨W4.heap.size, 0, none⟩) 1 1] 33)
  generalize V5.alloc (.cells #[.slice none 0 0, .slice none 0 0, .slice none 0 0, .slice (some ⟨W2.heap.size, 0, none⟩) 1 1, .slice (some ⟨W4.heap.size, 0, none⟩) 1 1] 33) = V6 at *
  replace HC := Lib.hid (HC.out.keep hk (fun h => h))
  replace HS := Lib.hid (HS.out.keep hk (fun h => h))
  replace KK := Lib.hid (keep0_trans _ _ _ KK.out hk)
  have HV := Lib.hid hb
  clear hb hk
  have x0 := HV.out.cell 0
  have x1 := HV.out.cell 1
  have x2 := HV.out.cell 2
  have x3 := HV.out.cell 3
  have x4 := HV.out.cell 4
  simp at x0 x1 x2 x3 x4
  have NVA := Lib.hid (show ¬ V5.heap.size = V6.heap.size by have := Blk.lt HV.out; omega)
  have KA := Lib.hid (show w.heap.size ≤ V6.heap.size from KK.out.size)
  go_upto_region 5 with (fail)
  have hb := Blk.new V6 33 #[.slice none 0 0, .slice none 0 0, .slice none 0 0, .slice (some ⟨W2.heap.size, 0, none⟩) 1 1, .slice (some ⟨W4.heap.size, 0, none⟩) 1 1]
  have hk := (Keep.refl (fun _ => False) V6).alloc (.cells #[.slice none 0 0, .slice none 0 0, .slice none 0 0, .slice (some ⟨W2.heap.size, 0, none⟩) 1 1, .slice (some ⟨W4.heap.size, 0, none⟩) 1 1] 33)
  generalize V6.alloc (.cells #[.slice none 0 0, .slice none 0 0, .slice none 0 0, .slice (some ⟨W2.heap.size, 0, none⟩) 1 1, .slice (some ⟨W4.heap.size, 0, none⟩) 1 1] 33) = V7 at *
  replace HC := Lib.hid (HC.out.keep hk (fun h => h))
  replace HS := Lib.hid (HS.out.keep hk (fun h => h))
  replace HV := Lib.hid (HV.out.keep hk (fun h => h))
  replace KK := Lib.hid (keep0_trans _ _ _ KK.out hk)
  have HA := Lib.hid hb
  clear hb hk
  clear x0 x1 x2 x3 x4
  go_wp2_with fail
  refine (of_any 1 _).mono ?_
  rintro e W8 ⟨rfl, hk⟩
  replace HC := Lib.hid (HC.out.keep hk (fun h => h))
  replace HS := Lib.hid (HS.out.keep hk (fun h => h))
  replace HV := Lib.hid (HV.out.keep hk (fun h => h))
  replace HA := Lib.hid (HA.out.keep hk (fun h => h))
  replace KK := Lib.hid (keep0_trans _ _ _ KK.out hk)
  clear hk
  obtain ⟨V9, hV9⟩ : ∃ V, W8.alloc (.cells #[.int .i64 1, .int .i64 1, .int .u8 6, .int .i64 7, .int .i64 2, .int .i64 5, .int .u8 1, .int .i64 0] 35) = V := ⟨_, rfl⟩
  have hb : Blk V9 W8.heap.size 35 #[.int .i64 1, .int .i64 1, .int .u8 6, .int .i64 7, .int .i64 2, .int .i64 5, .int .u8 1, .int .i64 0] := by rw [← hV9]; exact Blk.new _ _ _
  have hk : Keep (fun _ => False) W8 V9 := by rw [← hV9]; exact (Keep.refl _ _).alloc _
  replace HC := Lib.hid (HC.out.keep hk (fun h => h))
  replace HS := Lib.hid (HS.out.keep hk (fun h => h))
  replace HV := Lib.hid (HV.out.keep hk (fun h => h))
  replace HA := Lib.hid (HA.out.keep hk (fun h => h))
  replace KK := Lib.hid (keep0_trans _ _ _ KK.out hk)
  have HM := Lib.hid hb
  clear hb hk
  have z0 := HA.out.cell 0
  have f0 := HA.out.frozen 0
  simp at z0
  go_upto_region 6 with (fail)
  have hs : Blk (V9.setCell ⟨V6.heap.size, 0, none⟩ (.slice (some ⟨W8.heap.size, 0, none⟩) 2 2)) (V6.heap.size) 33 #[.slice (some ⟨W8.heap.size, 0, none⟩) 2 2, .slice none 0 0, .slice none 0 0, .slice (some ⟨W2.heap.size, 0, none⟩) 1 1, .slice (some ⟨W4.heap.size, 0, none⟩) 1 1] := by have := HA.out.set_ 0 (.slice (some ⟨W8.heap.size, 0, none⟩) 2 2); simpa using this
  replace HC := Lib.hid (HC.out.far (p := ⟨V6.heap.size, 0, none⟩) (HC.out.ne_ HA.out (by decide)) (.slice (some ⟨W8.heap.size, 0, none⟩) 2 2))
  replace HS := Lib.hid (HS.out.far (p := ⟨V6.heap.size, 0, none⟩) (HS.out.ne_ HA.out (by decide)) (.slice (some ⟨W8.heap.size, 0, none⟩) 2 2))
  replace HV := Lib.hid (HV.out.far (p := ⟨V6.heap.size, 0, none⟩) NVA.out (.slice (some ⟨W8.heap.size, 0, none⟩) 2 2))
  replace HM := Lib.hid (HM.out.far (p := ⟨V6.heap.size, 0, none⟩) (HM.out.ne_ HA.out (by decide)) (.slice (some ⟨W8.heap.size, 0, none⟩) 2 2))
  replace KK := Lib.hid (KK.out.new (p := ⟨V6.heap.size, 0, none⟩) KA.out (.slice (some ⟨W8.heap.size, 0, none⟩) 2 2))
  clear z0 f0
  generalize V9.setCell ⟨V6.heap.size, 0, none⟩ (.slice (some ⟨W8.heap.size, 0, none⟩) 2 2) = V10 at *
  replace HA := Lib.hid hs
  clear hs
  obtain ⟨V11, hV11⟩ : ∃ V, V10.alloc (.cells #[.int .i64 2, .int .i64 4, .int .i64 9, .int .i64 1048576] 24) = V := ⟨_, rfl⟩
  have hb : Blk V11 V10.heap.size 24 #[.int .i64 2, .int .i64 4, .int .i64 9, .int .i64 1048576] := by rw [← hV11]; exact Blk.new _ _ _
  have hk : Keep (fun _ => False) V10 V11 := by rw [← hV11]; exact (Keep.refl _ _).alloc _
  replace HC := Lib.hid (HC.out.keep hk (fun h => h))
  replace HS := Lib.hid (HS.out.keep hk (fun h => h))
  replace HV := Lib.hid (HV.out.keep hk (fun h => h))
  replace HA := Lib.hid (HA.out.keep hk (fun h => h))
  replace HM := Lib.hid (HM.out.keep hk (fun h => h))
  replace KK := Lib.hid (keep0_trans _ _ _ KK.out hk)
  have HF := Lib.hid hb
  clear hb hk
  have z0 := HA.out.cell 1
  have f0 := HA.out.frozen 1
  simp at z0
  go_upto_region 7 with (fail)
  have hs : Blk (V11.setCell ⟨V6.heap.size, 1, none⟩ (.slice (some ⟨V10.heap.size, 0, none⟩) 2 2)) (V6.heap.size) 33 #[.slice (some ⟨W8.heap.size, 0, none⟩) 2 2, .slice (some ⟨V10.heap.size, 0, none⟩) 2 2, .slice none 0 0, .slice (some ⟨W2.heap.size, 0, none⟩) 1 1, .slice (some ⟨W4.heap.size, 0, none⟩) 1 1] := by have := HA.out.set_ 1 (.slice (some ⟨V10.heap.size, 0, none⟩) 2 2); simpa using this
  replace HC := Lib.hid (HC.out.far (p := ⟨V6.heap.size, 1, none⟩) (HC.out.ne_ HA.out (by decide)) (.slice (some ⟨V10.heap.size, 0, none⟩) 2 2))
  replace HS := Lib.hid (HS.out.far (p := ⟨V6.heap.size, 1, none⟩) (HS.out.ne_ HA.out (by decide)) (.slice (some ⟨V10.heap.size, 0, none⟩) 2 2))
  replace HV := Lib.hid (HV.out.far (p := ⟨V6.heap.size, 1, none⟩) NVA.out (.slice (some ⟨V10.heap.size, 0, none⟩) 2 2))
  replace HM := Lib.hid (HM.out.far (p := ⟨V6.heap.size, 1, none⟩) (HM.out.ne_ HA.out (by decide)) (.slice (some ⟨V10.heap.size, 0, none⟩) 2 2))
  replace HF := Lib.hid (HF.out.far (p := ⟨V6.heap.size, 1, none⟩) (HF.out.ne_ HA.out (by decide)) (.slice (some ⟨V10.heap.size, 0, none⟩) 2 2))
  replace KK := Lib.hid (KK.out.new (p := ⟨V6.heap.size, 1, none⟩) KA.out (.slice (some ⟨V10.heap.size, 0, none⟩) 2 2))
  clear z0 f0
  generalize V11.setCell ⟨V6.heap.size, 1, none⟩ (.slice (some ⟨V10.heap.size, 0, none⟩) 2 2) = V12 at *
  replace HA := Lib.hid hs
  clear hs
  go_wp2_with fail
  refine (of_any 1 _).mono ?_
  rintro e W13 ⟨rfl, hk⟩
  replace HC := Lib.hid (HC.out.keep hk (fun h => h))
  replace HS := Lib.hid (HS.out.keep hk (fun h => h))
  replace HV := Lib.hid (HV.out.keep hk (fun h => h))
  replace HA := Lib.hid (HA.out.keep hk (fun h => h))
  replace HM := Lib.hid (HM.out.keep hk (fun h => h))
  replace HF := Lib.hid (HF.out.keep hk (fun h => h))
  replace KK := Lib.hid (keep0_trans _ _ _ KK.out hk)
  clear hk
  obtain ⟨V14, hV14⟩ : ∃ V, W13.alloc (.cells #[.int .i64 2, .int .i64 5] 24) = V := ⟨_, rfl⟩
  have hb : Blk V14 W13.heap.size 24 #[.int .i64 2, .int .i64 5] := by rw [← hV14]; exact Blk.new _ _ _
  have hk : Keep (fun _ => False) W13 V14 := by rw [← hV14]; exact (Keep.refl _ _).alloc _
  replace HC := Lib.hid (HC.out.keep hk (fun h => h))
  replace HS := Lib.hid (HS.out.keep hk (fun h => h))
  replace HV := Lib.hid (HV.out.keep hk (fun h => h))
  replace HA := Lib.hid (HA.out.keep hk (fun h => h))
  replace HM := Lib.hid (HM.out.keep hk (fun h => h))
  replace HF := Lib.hid (HF.out.keep hk (fun h => h))
  replace KK := Lib.hid (keep0_trans _ _ _ KK.out hk)
  have HN := Lib.hid hb
  clear hb hk
  obtain ⟨V15, hV15⟩ : ∃ V, V14.alloc (.cells #[.int .i64 1, .int .i64 1, .int .i64 3, .slice (some ⟨W13.heap.size, 0, none⟩) 1 1, .int .i64 2, .int .i64 5, .int .i64 1, .slice none 0 0] 37) = V := ⟨_, rfl⟩
  have hb : Blk V15 V14.heap.size 37 #[.int .i64 1, .int .i64 1, .int .i64 3, .slice (some ⟨W13.heap.size, 0, none⟩) 1 1, .int .i64 2, .int .i64 5, .int .i64 1, .slice none 0 0] := by rw [← hV15]; exact Blk.new _ _ _
  have hk : Keep (fun _ => False) V14 V15 := by rw [← hV15]; exact (Keep.refl _ _).alloc _
  replace HC := Lib.hid (HC.out.keep hk (fun h => h))
  replace HS := Lib.hid (HS.out.keep hk (fun h => h))
  replace HV := Lib.hid (HV.out.keep hk (fun h => h))
  replace HA := Lib.hid (HA.out.keep hk (fun h => h))
  replace HM := Lib.hid (HM.out.keep hk (fun h => h))
  replace HF := Lib.hid (HF.out.keep hk (fun h => h))
  replace HN := Lib.hid (HN.out.keep hk (fun h => h))
  replace KK := Lib.hid (keep0_trans _ _ _ KK.out hk)
  have HR := Lib.hid hb
  clear hb hk
  have z0 := HA.out.cell 2
  have f0 := HA.out.frozen 2
  simp at z0
  go_upto_region 8 with (fail)
  have hs : Blk (V15.setCell ⟨V6.heap.size, 2, none⟩ (.slice (some ⟨V14.heap.size, 0, none⟩) 2 2)) (V6.heap.size) 33 #[.slice (some ⟨W8.heap.size, 0, none⟩) 2 2, .slice (some ⟨V10.heap.size, 0, none⟩) 2 2, .slice (some ⟨V14.heap.size, 0, none⟩) 2 2, .slice (some ⟨W2.heap.size, 0, none⟩) 1 1, .slice (some ⟨W4.heap.size, 0, none⟩) 1 1] := by have := HA.out.set_ 2 (.slice (some ⟨V14.heap.size, 0, none⟩) 2 2); simpa using this
  replace HC := Lib.hid (HC.out.far (p := ⟨V6.heap.size, 2, none⟩) (HC.out.ne_ HA.out (by decide)) (.slice (some ⟨V14.heap.size, 0, none⟩) 2 2))
  replace HS := Lib.hid (HS.out.far (p := ⟨V6.heap.size, 2, none⟩) (HS.out.ne_ HA.out (by decide)) (.slice (some ⟨V14.heap.size, 0, none⟩) 2 2))
  replace HV := Lib.hid (HV.out.far (p := ⟨V6.heap.size, 2, none⟩) NVA.out (.slice (some ⟨V14.heap.size, 0, none⟩) 2 2))
  replace HM := Lib.hid (HM.out.far (p := ⟨V6.heap.size, 2, none⟩) (HM.out.ne_ HA.out (by decide)) (.slice (some ⟨V14.heap.size, 0, none⟩) 2 2))
  replace HF := Lib.hid (HF.out.far (p := ⟨V6.heap.size, 2, none⟩) (HF.out.ne_ HA.out (by decide)) (.slice (some ⟨V14.heap.size, 0, none⟩) 2 2))
  replace HN := Lib.hid (HN.out.far (p := ⟨V6.heap.size, 2, none⟩) (HN.out.ne_ HA.out (by decide)) (.slice (some ⟨V14.heap.size, 0, none⟩) 2 2))
  replace HR := Lib.hid (HR.out.far (p := ⟨V6.heap.size, 2, none⟩) (HR.out.ne_ HA.out (by decide)) (.slice (some ⟨V14.heap.size, 0, none⟩) 2 2))
  replace KK := Lib.hid (KK.out.new (p := ⟨V6.heap.size, 2, none⟩) KA.out (.slice (some ⟨V14.heap.size, 0, none⟩) 2 2))
  clear z0 f0
  generalize V15.setCell ⟨V6.heap.size, 2, none⟩ (.slice (some ⟨V14.heap.size, 0, none⟩) 2 2) = V16 at *
  replace HA := Lib.hid hs
  clear hs
  go_wp2_with fail
  refine (of_any 4 _).mono ?_
  rintro e W17 ⟨rfl, hk⟩
  replace HC := Lib.hid (HC.out.keep hk (fun h => h))
  replace HS := Lib.hid (HS.out.keep hk (fun h => h))
  replace HV := Lib.hid (HV.out.keep hk (fun h => h))
  replace HA := Lib.hid (HA.out.keep hk (fun h => h))
  replace HM := Lib.hid (HM.out.keep hk (fun h => h))
  replace HF := Lib.hid (HF.out.keep hk (fun h => h))
  replace HN := Lib.hid (HN.out.keep hk (fun h => h))
  replace HR := Lib.hid (HR.out.keep hk (fun h => h))
  replace KK := Lib.hid (keep0_trans _ _ _ KK.out hk)
  clear hk
  go_upto_region 9 with (fail)
  have hb := Blk.new W17 24 #[.int .i64 4, .int .i64 1]
  have hk := (Keep.refl (fun _ => False) W17).alloc (.cells #[.int .i64 4, .int .i64 1] 24)
  have hOI : (W17.alloc (.cells #[.int .i64 4, .int .i64 1] 24)).heap.size = W17.heap.size + 1 := by simp
  generalize W17.alloc (.cells #[.int .i64 4, .int .i64 1] 24) = V18 at *
  replace HC := Lib.hid (HC.out.keep hk (fun h => h))
  replace HS := Lib.hid (HS.out.keep hk (fun h => h))
  replace HV := Lib.hid (HV.out.keep hk (fun h => h))
  replace HA := Lib.hid (HA.out.keep hk (fun h => h))
  replace HM := Lib.hid (HM.out.keep hk (fun h => h))
  replace HF := Lib.hid (HF.out.keep hk (fun h => h))
  replace HN := Lib.hid (HN.out.keep hk (fun h => h))
  replace HR := Lib.hid (HR.out.keep hk (fun h => h))
  replace KK := Lib.hid (keep0_trans _ _ _ KK.out hk)
  have HI := Lib.hid hb
  clear hb hk
  have hb := Blk.new V18 24 #[.int .i64 5, .int .i64 0]
  have hk := (Keep.refl (fun _ => False) V18).alloc (.cells #[.int .i64 5, .int .i64 0] 24)
  generalize V18.alloc (.cells #[.int .i64 5, .int .i64 0] 24) = V19 at *
  replace HC := Lib.hid (HC.out.keep hk (fun h => h))
  replace HS := Lib.hid (HS.out.keep hk (fun h => h))
  replace HV := Lib.hid (HV.out.keep hk (fun h => h))
  replace HA := Lib.hid (HA.out.keep hk (fun h => h))
  replace HM := Lib.hid (HM.out.keep hk (fun h => h))
  replace HF := Lib.hid (HF.out.keep hk (fun h => h))
  replace HN := Lib.hid (HN.out.keep hk (fun h => h))
  replace HR := Lib.hid (HR.out.keep hk (fun h => h))
  replace HI := Lib.hid (HI.out.keep hk (fun h => h))
  replace KK := Lib.hid (keep0_trans _ _ _ KK.out hk)
  have HO := Lib.hid hb
  clear hb hk
  rw [hOI] at HO
  go_upto_region 9 with (fail)
  refine wp_region_kord (Keep (fun _ => False)) (Keep.refl _) keep0_trans 27 (Ts := [some (.inl (.agg #[.int .u8 1, .int .i64 0, .int .i64 0, .int .i64 0, .int .i64 0, .int .i64 0, .int .i64 0, .int .i64 0, .int .i64 0, .slice none 0 0, .slice none 0 0, .slice none 0 0, .slice none 0 0, .slice none 0 0])), some (.inl (.agg #[.int .u8 1, .int .i64 0, .int .i64 0, .int .i64 0, .int .i64 0, .int .i64 0, .int .i64 0, .int .i64 0, .int .i64 0, .slice none 0 0, .slice none 0 0, .slice none 0 0, .slice none 0 0, .slice none 0 0, .bool true, .bool true, .bool false, .bool false, .bool false, .int .i64 0])), some (.inl (.agg #[.int .u8 2, .int .i64 0, .int .i64 0, .int .i64 0, .int .i64 0, .int .i64 0, .int .i64 0, .int .i64 0, .int .i64 0, .slice none 0 0, .slice none 0 0, .slice none 0 0, .slice none 0 0, .slice none 0 0])), some (.inl (.agg #[.int .u8 2, .int .i64 0, .int .i64 0, .int .i64 0, .int .i64 0, .int .i64 0, .int .i64 0, .int .i64 0, .int .i64 0, .slice none 0 0, .slice none 0 0, .slice none 0 0, .slice none 0 0, .slice none 0 0, .bool true, .bool true, .bool false, .bool false, .bool false, .int .i64 2])), some (.inl (.agg #[.int .u8 3, .int .i64 0, .int .i64 0, .int .i64 0, .int .i64 0, .int .i64 0, .int .i64 0, .int .i64 0, .int .i64 0, .slice none 0 0, .slice none 0 0, .slice none 0 0, .slice none 0 0, .slice none 0 0])), some (.inl (.agg #[.int .u8 3, .int .i64 0, .int .i64 0, .int .i64 0, .int .i64 0, .int .i64 0, .int .i64 0, .int .i64 0, .int .i64 0, .slice none 0 0, .slice none 0 0, .slice none 0 0, .slice none 0 0, .slice none 0 0, .bool true, .bool true, .bool false, .bool false, .bool false, .int .i64 1])), some (.inl (.agg #[.int .u8 4, .int .i64 0, .int .i64 0, .int .i64 0, .int .i64 0, .int .i64 0, .int .i64 0, .int .i64 0, .int .i64 0, .slice none 0 0, .slice none 0 0, .slice none 0 0, .slice none 0 0, .slice none 0 0])), some (.inl (.agg #[.int .u8 4, .int .i64 0, .int .i64 0, .int .i64 0, .int .i64 0, .int .i64 0, .int .i64 0, .int .i64 0, .int .i64 0, .slice none 0 0, .slice none 0 0, .slice none 0 0, .slice none 0 0, .slice none 0 0, .bool true, .bool true, .bool false, .bool false, .bool false, .int .i64 2])), some (.inl (.agg #[.int .u8 5, .int .i64 0, .int .i64 0, .int .i64 0, .int .i64 0, .int .i64 0, .int .i64 0, .int .i64 0, .int .i64 0, .slice none 0 0, .slice none 0 0, .slice none 0 0, .slice none 0 0, .slice none 0 0])), some (.inl (.agg #[.int .u8 5, .int .i64 0, .int .i64 0, .int .i64 0, .int .i64 0, .int .i64 0, .int .i64 0, .int .i64 0, .int .i64 0, .slice none 0 0, .slice none 0 0, .slice none 0 0, .slice none 0 0, .slice none 0 0, .bool true, .bool true, .bool true, .bool false, .bool false, .int .i64 0])), some (.inl (.agg #[.int .u8 6, .int .i64 0, .int .i64 0, .int .i64 0, .int .i64 0, .int .i64 0, .int .i64 0, .int .i64 0, .int .i64 0, .slice none 0 0, .slice none 0 0, .slice none 0 0, .slice none 0 0, .slice none 0 0])), some (.inl (.agg #[.int .u8 6, .int .i64 0, .int .i64 0, .int .i64 0, .int .i64 0, .int .i64 0, .int .i64 0, .int .i64 0, .int .i64 0, .slice none 0 0, .slice none 0 0, .slice none 0 0, .slice none 0 0, .slice none 0 0, .bool true, .bool true, .bool true, .bool false, .bool false, .int .i64 0])), some (.inl (.agg #[.int .u8 7, .int .i64 0, .int .i64 0, .int .i64 0, .int .i64 0, .int .i64 0, .int .i64 0, .int .i64 0, .int .i64 0, .slice none 0 0, .slice none 0 0, .slice none 0 0, .slice none 0 0, .slice none 0 0])), some (.inl (.agg #[.int .u8 7, .int .i64 0, .int .i64 0, .int .i64 0, .int .i64 0, .int .i64 0, .int .i64 0, .int .i64 0, .int .i64 0, .slice none 0 0, .slice none 0 0, .slice none 0 0, .slice none 0 0, .slice none 0 0, .bool true, .bool true, .bool false, .bool false, .bool true, .int .i64 0])), some (.inl (.agg #[.int .u8 8, .int .i64 0, .int .i64 0, .int .i64 0, .int .i64 0, .int .i64 0, .int .i64 0, .int .i64 0, .int .i64 0, .slice none 0 0, .slice none 0 0, .slice none 0 0, .slice none 0 0, .slice none 0 0])), some (.inl (.agg #[.int .u8 8, .int .i64 0, .int .i64 0, .int .i64 0, .int .i64 0, .int .i64 0, .int .i64 0, .int .i64 0, .int .i64 0, .slice none 0 0, .slice none 0 0, .slice none 0 0, .slice none 0 0, .slice none 0 0, .bool true, .bool true, .bool false, .bool false, .bool true, .int .i64 0])), some (.inl (.agg #[.int .u8 9, .int .i64 0, .int .i64 0, .int .i64 0, .int .i64 0, .int .i64 0, .int .i64 0, .int .i64 0, .int .i64 0, .slice none 0 0, .slice none 0 0, .slice none 0 0, .slice none 0 0, .slice none 0 0])), some (.inl (.agg #[.int .u8 9, .int .i64 0, .int .i64 0, .int .i64 0, .int .i64 0, .int .i64 0, .int .i64 0, .int .i64 0, .int .i64 0, .slice none 0 0, .slice none 0 0, .slice none 0 0, .slice none 0 0, .slice none 0 0, .bool true, .bool false, .bool true, .bool false, .bool false, .int .i64 0])), some (.inl (.agg #[.int .u8 10, .int .i64 0, .int .i64 0, .int .i64 0, .int .i64 0, .int .i64 0, .int .i64 0, .int .i64 0, .int .i64 0, .slice none 0 0, .slice none 0 0, .slice none 0 0, .slice none 0 0, .slice none 0 0])), some (.inl (.agg #[.int .u8 10, .int .i64 0, .int .i64 0, .int .i64 0, .int .i64 0, .int .i64 0, .int .i64 0, .int .i64 0, .int .i64 0, .slice none 0 0, .slice none 0 0, .slice none 0 0, .slice none 0 0, .slice none 0 0, .bool true, .bool false, .bool true, .bool true, .bool false, .int .i64 0])), some (.inl (.agg #[.int .u8 11, .int .i64 0, .int .i64 0, .int .i64 0, .int .i64 0, .int .i64 0, .int .i64 0, .int .i64 0, .int .i64 0, .slice none 0 0, .slice none 0 0, .slice none 0 0, .slice none 0 0, .slice none 0 0])), some (.inl (.agg #[.int .u8 11, .int .i64 0, .int .i64 0, .int .i64 0, .int .i64 0, .int .i64 0, .int .i64 0, .int .i64 0, .int .i64 0, .slice none 0 0, .slice none 0 0, .slice none 0 0, .slice none 0 0, .slice none 0 0, .bool true, .bool false, .bool false, .bool true, .bool false, .int .i64 0])), some (.inl (.agg #[.int .u8 12, .int .i64 0, .int .i64 0, .int .i64 0, .int .i64 0, .int .i64 0, .int .i64 0, .int .i64 0, .int .i64 0, .slice none 0 0, .slice none 0 0, .slice none 0 0, .slice none 0 0, .slice none 0 0])), some (.inl (.agg #[.int .u8 12, .int .i64 0, .int .i64 0, .int .i64 0, .int .i64 0, .int .i64 0, .int .i64 0, .int .i64 0, .int .i64 0, .slice none 0 0, .slice none 0 0, .slice none 0 0, .slice none 0 0, .slice none 0 0, .bool false, .bool true, .bool true, .bool true, .bool false, .int .i64 0])), some (.inl (.agg #[.int .u8 13, .int .i64 0, .int .i64 0, .int .i64 0, .int .i64 0, .int .i64 0, .int .i64 0, .int .i64 0, .int .i64 0, .slice none 0 0, .slice none 0 0, .slice none 0 0, .slice none 0 0, .slice none 0 0])), some (.inl (.agg #[.int .u8 13, .int .i64 0, .int .i64 0, .int .i64 0, .int .i64 0, .int .i64 0, .int .i64 0, .int .i64 0, .int .i64 0, .slice none 0 0, .slice none 0 0, .slice none 0 0, .slice none 0 0, .slice none 0 0, .bool false, .bool true, .bool true, .bool false, .bool false, .int .i64 0])), some (.inr (fun v W => ∃ g, v = .slice (some ⟨g, 0, none⟩) 13 13 ∧ Blk W g 40 #[.int .u8 1, .int .i64 0, .int .i64 0, .int .i64 0, .int .i64 0, .int .i64 0, .int .i64 0, .int .i64 0, .int .i64 0, .slice none 0 0, .slice none 0 0, .slice none 0 0, .slice none 0 0, .slice none 0 0, .bool true, .bool true, .bool false, .bool false, .bool false, .int .i64 0, .int .u8 2, .int .i64 0, .int .i64 0, .int .i64 0, .int .i64 0, .int .i64 0, .int .i64 0, .int .i64 0, .int .i64 0, .slice none 0 0, .slice none 0 0, .slice none 0 0, .slice none 0 0, .slice none 0 0, .bool true, .bool true, .bool false, .bool false, .bool false, .int .i64 2, .int .u8 3, .int .i64 0, .int .i64 0, .int .i64 0, .int .i64 0, .int .i64 0, .int .i64 0, .int .i64 0, .int .i64 0, .slice none 0 0, .slice none 0 0, .slice none 0 0, .slice none 0 0, .slice none 0 0, .bool true, .bool true, .bool false, .bool false, .bool false, .int .i64 1, .int .u8 4, .int .i64 0, .int .i64 0, .int .i64 0, .int .i64 0, .int .i64 0, .int .i64 0, .int .i64 0, .int .i64 0, .slice none 0 0, .slice none 0 0, .slice none 0 0, .slice none 0 0, .slice none 0 0, .bool true, .bool true, .bool false, .bool false, .bool false, .int .i64 2, .int .u8 5, .int .i64 0, .int .i64 0, .int .i64 0, .int .i64 0, .int .i64 0, .int .i64 0, .int .i64 0, .int .i64 0, .slice none 0 0, .slice none 0 0, .slice none 0 0, .slice none 0 0, .slice none 0 0, .bool true, .bool true, .bool true, .bool false, .bool false, .int .i64 0, .int .u8 6, .int .i64 0, .int .i64 0, .int .i64 0, .int .i64 0, .int .i64 0, .int .i64 0, .int .i64 0, .int .i64 0, .slice none 0 0, .slice none 0 0, .slice none 0 0, .slice none 0 0, .slice none 0 0, .bool true, .bool true, .bool true, .bool false, .bool false, .int .i64 0, .int .u8 7, .int .i64 0, .int .i64 0, .int .i64 0, .int .i64 0, .int .i64 0, .int .i64 0, .int .i64 0, .int .i64 0, .slice none 0 0, .slice none 0 0, .slice none 0 0, .slice none 0 0, .slice none 0 0, .bool true, .bool true, .bool false, .bool false, .bool true, .int .i64 0, .int .u8 8, .int .i64 0, .int .i64 0, .int .i64 0, .int .i64 0, .int .i64 0, .int .i64 0, .int .i64 0, .int .i64 0, .slice none 0 0, .slice none 0 0, .slice none 0 0, .slice none 0 0, .slice none 0 0, .bool true, .bool true, .bool false, .bool false, .bool true, .int .i64 0, .int .u8 9, .int .i64 0, .int .i64 0, .int .i64 0, .int .i64 0, .int .i64 0, .int .i64 0, .int .i64 0, .int .i64 0, .slice none 0 0, .slice none 0 0, .slice none 0 0, .slice none 0 0, .slice none 0 0, .bool true, .bool false, .bool true, .bool false, .bool false, .int .i64 0, .int .u8 10, .int .i64 0, .int .i64 0, .int .i64 0, .int .i64 0, .int .i64 0, .int .i64 0, .int .i64 0, .int .i64 0, .slice none 0 0, .slice none 0 0, .slice none 0 0, .slice none 0 0, .slice none 0 0, .bool true, .bool false, .bool true, .bool true, .bool false, .int .i64 0, .int .u8 11, .int .i64 0, .int .i64 0, .int .i64 0, .int .i64 0, .int .i64 0, .int .i64 0, .int .i64 0, .int .i64 0, .slice none 0 0, .slice none 0 0, .slice none 0 0, .slice none 0 0, .slice none 0 0, .bool true, .bool false, .bool false, .bool true, .bool false, .int .i64 0, .int .u8 12, .int .i64 0, .int .i64 0, .int .i64 0, .int .i64 0, .int .i64 0, .int .i64 0, .int .i64 0, .int .i64 0, .slice none 0 0, .slice none 0 0, .slice none 0 0, .slice none 0 0, .slice none 0 0, .bool false, .bool true, .bool true, .bool true, .bool false, .int .i64 0, .int .u8 13, .int .i64 0, .int .i64 0, .int .i64 0, .int .i64 0, .int .i64 0, .int .i64 0, .int .i64 0, .int .i64 0, .slice none 0 0, .slice none 0 0, .slice none 0 0, .slice none 0 0, .slice none 0 0, .bool false, .bool true, .bool true, .bool false, .bool false, .int .i64 0] ∧ 0 ≤ g))]) ?_
  simp only [List.take, List.drop]
  refine kAll_dn _ (fun W hW hF => kStep_of fun K Q hK => ?_) (fun K hK => ?_)
  · exact wp_build_is 39 _ rfl (l := [(0, .int .u8 1)]) (by kernel_rfl) (bl39_0 1) (hK _ _ (Keep.refl _ _) rfl)
  go_simp
  generalize hZ : (Act.mk _ _) = Z
  refine hK Z ?_
  subst hZ
  clear hK K
  refine kAll_dn _ (fun W hW hF => kStep_of fun K Q hK => ?_) (fun K hK => ?_)
  · exact wp_build_is 40 _ rfl (l := [(0, .agg #[.int .u8 1, .int .i64 0, .int .i64 0, .int .i64 0, .int .i64 0, .int .i64 0, .int .i64 0, .int .i64 0, .int .i64 0, .slice none 0 0, .slice none 0 0, .slice none 0 0, .slice none 0 0, .slice none 0 0]), (1, .bool true), (2, .bool true), (3, .bool false), (4, .bool false), (5, .bool false), (6, .int .i64 0)]) (by kernel_rfl) (bl40_0123456 1 true true false false false 0) (hK _ _ (Keep.refl _ _) rfl)
  go_simp
  generalize hZ : (Act.mk _ _) = Z
  refine hK Z ?_
  subst hZ
  clear hK K
  refine kAll_dn _ (fun W hW hF => kStep_of fun K Q hK => ?_) (fun K hK => ?_)
  · exact wp_build_is 39 _ rfl (l := [(0, .int .u8 2)]) (by kernel_rfl) (bl39_0 2) (hK _ _ (Keep.refl _ _) rfl)
  go_simp
  generalize hZ : (Act.mk _ _) = Z
  refine hK Z ?_
  subst hZ
  clear hK K
  refine kAll_dn _ (fun W hW hF => kStep_of fun K Q hK => ?_) (fun K hK => ?_)
  · exact wp_build_is 40 _ rfl (l := [(0, .agg #[.int .u8 2, .int .i64 0, .int .i64 0, .int .i64 0, .int .i64 0, .int .i64 0, .int .i64 0, .int .i64 0, .int .i64 0, .slice none 0 0, .slice none 0 0, .slice none 0 0, .slice none 0 0, .slice none 0 0]), (1, .bool true), (2, .bool true), (3, .bool false), (4, .bool false), (5, .bool false), (6, .int .i64 2)]) (by kernel_rfl) (bl40_0123456 2 true true false false false 2) (hK _ _ (Keep.refl _ _) rfl)
  go_simp
  generalize hZ : (Act.mk _ _) = Z
  refine hK Z ?_
  subst hZ
  clear hK K
  refine kAll_dn _ (fun W hW hF => kStep_of fun K Q hK => ?_) (fun K hK => ?_)
  · exact wp_build_is 39 _ rfl (l := [(0, .int .u8 3)]) (by kernel_rfl) (bl39_0 3) (hK _ _ (Keep.refl _ _) rfl)
  go_simp
  generalize hZ : (Act.mk _ _) = Z
  refine hK Z ?_
  subst hZ
  clear hK K
  refine kAll_dn _ (fun W hW hF => kStep_of fun K Q hK => ?_) (fun K hK => ?_)
  · exact wp_build_is 40 _ rfl (l := [(0, .agg #[.int .u8 3, .int .i64 0, .int .i64 0, .int .i64 0, .int .i64 0, .int .i64 0, .int .i64 0, .int .i64 0, .int .i64 0, .slice none 0 0, .slice none 0 0, .slice none 0 0, .slice none 0 0, .slice none 0 0]), (1, .bool true), (2, .bool true), (3, .bool false), (4, .bool false), (5, .bool false), (6, .int .i64 1)]) (by kernel_rfl) (bl40_0123456 3 true true false false false 1) (hK _ _ (Keep.refl _ _) rfl)
  go_simp
  generalize hZ : (Act.mk _ _) = Z
  refine hK Z ?_
  subst hZ
  clear hK K
  refine kAll_dn _ (fun W hW hF => kStep_of fun K Q hK => ?_) (fun K hK => ?_)
  · exact wp_build_is 39 _ rfl (l := [(0, .int .u8 4)]) (by kernel_rfl) (bl39_0 4) (hK _ _ (Keep.refl _ _) rfl)
  go_simp
  generalize hZ : (Act.mk _ _) = Z
  refine hK Z ?_
  subst hZ
  clear hK K
  refine kAll_dn _ (fun W hW hF => kStep_of fun K Q hK => ?_) (fun K hK => ?_)
  · exact wp_build_is 40 _ rfl (l := [(0, .agg #[.int .u8 4, .int .i64 0, .int .i64 0, .int .i64 0, .int .i64 0, .int .i64 0, .int .i64 0, .int .i64 0, .int .i64 0, .slice none 0 0, .slice none 0 0, .slice none 0 0, .slice none 0 0, .slice none 0 0]), (1, .bool true), (2, .bool true), (3, .bool false), (4, .bool false), (5, .bool false), (6, .int .i64 2)]) (by kernel_rfl) (bl40_0123456 4 true true false false false 2) (hK _ _ (Keep.refl _ _) rfl)
  go_simp
  generalize hZ : (Act.mk _ _) = Z
  refine hK Z ?_
  subst hZ
  clear hK K
  refine kAll_dn _ (fun W hW hF => kStep_of fun K Q hK => ?_) (fun K hK => ?_)
  · exact wp_build_is 39 _ rfl (l := [(0, .int .u8 5)]) (by kernel_rfl) (bl39_0 5) (hK _ _ (Keep.refl _ _) rfl)
  go_simp
  generalize hZ : (Act.mk _ _) = Z
  refine hK Z ?_
  subst hZ
  clear hK K
  refine kAll_dn _ (fun W hW hF => kStep_of fun K Q hK => ?_) (fun K hK => ?_)
  · exact wp_build_is 40 _ rfl (l := [(0, .agg #[.int .u8 5, .int .i64 0, .int .i64 0, .int .i64 0, .int .i64 0, .int .i64 0, .int .i64 0, .int .i64 0, .int .i64 0, .slice none 0 0, .slice none 0 0, .slice none 0 0, .slice none 0 0, .slice none 0 0]), (1, .bool true), (2, .bool true), (3, .bool true), (4, .bool false), (5, .bool false), (6, .int .i64 0)]) (by kernel_rfl) (bl40_0123456 5 true true true false false 0) (hK _ _ (Keep.refl _ _) rfl)
  go_simp
  generalize hZ : (Act.mk _ _) = Z
  refine hK Z ?_
  subst hZ
  clear hK K
  refine kAll_dn _ (fun W hW hF => kStep_of fun K Q hK => ?_) (fun K hK => ?_)
  · exact wp_build_is 39 _ rfl (l := [(0, .int .u8 6)]) (by kernel_rfl) (bl39_0 6) (hK _ _ (Keep.refl _ _) rfl)
  go_simp
  generalize hZ : (Act.mk _ _) = Z
  refine hK Z ?_
  subst hZ
  clear hK K
  refine kAll_dn _ (fun W hW hF => kStep_of fun K Q hK => ?_) (fun K hK => ?_)
  · exact wp_build_is 40 _ rfl (l := [(0, .agg #[.int .u8 6, .int .i64 0, .int .i64 0, .int .i64 0, .int .i64 0, .int .i64 0, .int .i64 0, .int .i64 0, .int .i64 0, .slice none 0 0, .slice none 0 0, .slice none 0 0, .slice none 0 0, .slice none 0 0]), (1, .bool true), (2, .bool true), (3, .bool true), (4, .bool false), (5, .bool false), (6, .int .i64 0)]) (by kernel_rfl) (bl40_0123456 6 true true true false false 0) (hK _ _ (Keep.refl _ _) rfl)
  go_simp
  generalize hZ : (Act.mk _ _) = Z
  refine hK Z ?_
  subst hZ
  clear hK K
  refine kAll_dn _ (fun W hW hF => kStep_of fun K Q hK => ?_) (fun K hK => ?_)
  · exact wp_build_is 39 _ rfl (l := [(0, .int .u8 7)]) (by kernel_rfl) (bl39_0 7) (hK _ _ (Keep.refl _ _) rfl)
  go_simp
  generalize hZ : (Act.mk _ _) = Z
  refine hK Z ?_
  subst hZ
  clear hK K
  refine kAll_dn _ (fun W hW hF => kStep_of fun K Q hK => ?_) (fun K hK => ?_)
  · exact wp_build_is 40 _ rfl (l := [(0, .agg #[.int .u8 7, .int .i64 0, .int .i64 0, .int .i64 0, .int .i64 0, .int .i64 0, .int .i64 0, .int .i64 0, .int .i64 0, .slice none 0 0, .slice none 0 0, .slice none 0 0, .slice none 0 0, .slice none 0 0]), (1, .bool true), (2, .bool true), (3, .bool false), (4, .bool false), (5, .bool true), (6, .int .i64 0)]) (by kernel_rfl) (bl40_0123456 7 true true false false true 0) (hK _ _ (Keep.refl _ _) rfl)
  go_simp
  generalize hZ : (Act.mk _ _) = Z
  refine hK Z ?_
  subst hZ
  clear hK K
  refine kAll_dn _ (fun W hW hF => kStep_of fun K Q hK => ?_) (fun K hK => ?_)
  · exact wp_build_is 39 _ rfl (l := [(0, .int .u8 8)]) (by kernel_rfl) (bl39_0 8) (hK _ _ (Keep.refl _ _) rfl)
  go_simp
  generalize hZ : (Act.mk _ _) = Z
  refine hK Z ?_
  subst hZ
  clear hK K
  refine kAll_dn _ (fun W hW hF => kStep_of fun K Q hK => ?_) (fun K hK => ?_)
  · exact wp_build_is 40 _ rfl (l := [(0, .agg #[.int .u8 8, .int .i64 0, .int .i64 0, .int .i64 0, .int .i64 0, .int .i64 0, .int .i64 0, .int .i64 0, .int .i64 0, .slice none 0 0, .slice none 0 0, .slice none 0 0, .slice none 0 0, .slice none 0 0]), (1, .bool true), (2, .bool true), (3, .bool false), (4, .bool false), (5, .bool true), (6, .int .i64 0)]) (by kernel_rfl) (bl40_0123456 8 true true false false true 0) (hK _ _ (Keep.refl _ _) rfl)
  go_simp
  generalize hZ : (Act.mk _ _) = Z
  refine hK Z ?_
  subst hZ
  clear hK K
  refine kAll_dn _ (fun W hW hF => kStep_of fun K Q hK => ?_) (fun K hK => ?_)
  · exact wp_build_is 39 _ rfl (l := [(0, .int .u8 9)]) (by kernel_rfl) (bl39_0 9) (hK _ _ (Keep.refl _ _) rfl)
  go_simp
  generalize hZ : (Act.mk _ _) = Z
  refine hK Z ?_
  subst hZ
  clear hK K
  refine kAll_dn _ (fun W hW hF => kStep_of fun K Q hK => ?_) (fun K hK => ?_)
  · exact wp_build_is 40 _ rfl (l := [(0, .agg #[.int .u8 9, .int .i64 0, .int .i64 0, .int .i64 0, .int .i64 0, .int .i64 0, .int .i64 0, .int .i64 0, .int .i64 0, .slice none 0 0, .slice none 0 0, .slice none 0 0, .slice none 0 0, .slice none 0 0]), (1, .bool true), (2, .bool false), (3, .bool true), (4, .bool false), (5, .bool false), (6, .int .i64 0)]) (by kernel_rfl) (bl40_0123456 9 true false true false false 0) (hK _ _ (Keep.refl _ _) rfl)
  go_simp
  generalize hZ : (Act.mk _ _) = Z
  refine hK Z ?_
  subst hZ
  clear hK K
  refine kAll_dn _ (fun W hW hF => kStep_of fun K Q hK => ?_) (fun K hK => ?_)
  · exact wp_build_is 39 _ rfl (l := [(0, .int .u8 10)]) (by kernel_rfl) (bl39_0 10) (hK _ _ (Keep.refl _ _) rfl)
  go_simp
  generalize hZ : (Act.mk _ _) = Z
  refine hK Z ?_
  subst hZ
  clear hK K
  refine kAll_dn _ (fun W hW hF => kStep_of fun K Q hK => ?_) (fun K hK => ?_)
  · exact wp_build_is 40 _ rfl (l := [(0, .agg #[.int .u8 10, .int .i64 0, .int .i64 0, .int .i64 0, .int .i64 0, .int .i64 0, .int .i64 0, .int .i64 0, .int .i64 0, .slice none 0 0, .slice none 0 0, .slice none 0 0, .slice none 0 0, .slice none 0 0]), (1, .bool true), (2, .bool false), (3, .bool true), (4, .bool true), (5, .bool false), (6, .int .i64 0)]) (by kernel_rfl) (bl40_0123456 10 true false true true false 0) (hK _ _ (Keep.refl _ _) rfl)
  go_simp
  generalize hZ : (Act.mk _ _) = Z
  refine hK Z ?_
  subst hZ
  clear hK K
  refine kAll_dn _ (fun W hW hF => kStep_of fun K Q hK => ?_) (fun K hK => ?_)
  · exact wp_build_is 39 _ rfl (l := [(0, .int .u8 11)]) (by kernel_rfl) (bl39_0 11) (hK _ _ (Keep.refl _ _) rfl)
  go_simp
  generalize hZ : (Act.mk _ _) = Z
  refine hK Z ?_
  subst hZ
  clear hK K
  refine kAll_dn _ (fun W hW hF => kStep_of fun K Q hK => ?_) (fun K hK => ?_)
  · exact wp_build_is 40 _ rfl (l := [(0, .agg #[.int .u8 11, .int .i64 0, .int .i64 0, .int .i64 0, .int .i64 0, .int .i64 0, .int .i64 0, .int .i64 0, .int .i64 0, .slice none 0 0, .slice none 0 0, .slice none 0 0, .slice none 0 0, .slice none 0 0]), (1, .bool true), (2, .bool false), (3, .bool false), (4, .bool true), (5, .bool false), (6, .int .i64 0)]) (by kernel_rfl) (bl40_0123456 11 true false false true false 0) (hK _ _ (Keep.refl _ _) rfl)
  go_simp
  generalize hZ : (Act.mk _ _) = Z
  refine hK Z ?_
  subst hZ
  clear hK K
  refine kAll_dn _ (fun W hW hF => kStep_of fun K Q hK => ?_) (fun K hK => ?_)
  · exact wp_build_is 39 _ rfl (l := [(0, .int .u8 12)]) (by kernel_rfl) (bl39_0 12) (hK _ _ (Keep.refl _ _) rfl)
  go_simp
  generalize hZ : (Act.mk _ _) = Z
  refine hK Z ?_
  subst hZ
  clear hK K
  refine kAll_dn _ (fun W hW hF => kStep_of fun K Q hK => ?_) (fun K hK => ?_)
  · exact wp_build_is 40 _ rfl (l := [(0, .agg #[.int .u8 12, .int .i64 0, .int .i64 0, .int .i64 0, .int .i64 0, .int .i64 0, .int .i64 0, .int .i64 0, .int .i64 0, .slice none 0 0, .slice none 0 0, .slice none 0 0, .slice none 0 0, .slice none 0 0]), (1, .bool false), (2, .bool true), (3, .bool true), (4, .bool true), (5, .bool false), (6, .int .i64 0)]) (by kernel_rfl) (bl40_0123456 12 false true true true false 0) (hK _ _ (Keep.refl _ _) rfl)
  go_simp
  generalize hZ : (Act.mk _ _) = Z
  refine hK Z ?_
  subst hZ
  clear hK K
  refine kAll_dn _ (fun W hW hF => kStep_of fun K Q hK => ?_) (fun K hK => ?_)
  · exact wp_build_is 39 _ rfl (l := [(0, .int .u8 13)]) (by kernel_rfl) (bl39_0 13) (hK _ _ (Keep.refl _ _) rfl)
  go_simp
  generalize hZ : (Act.mk _ _) = Z
  refine hK Z ?_
  subst hZ
  clear hK K
  refine kAll_dn _ (fun W hW hF => kStep_of fun K Q hK => ?_) (fun K hK => ?_)
  · exact wp_build_is 40 _ rfl (l := [(0, .agg #[.int .u8 13, .int .i64 0, .int .i64 0, .int .i64 0, .int .i64 0, .int .i64 0, .int .i64 0, .int .i64 0, .int .i64 0, .slice none 0 0, .slice none 0 0, .slice none 0 0, .slice none 0 0, .slice none 0 0]), (1, .bool false), (2, .bool true), (3, .bool true), (4, .bool false), (5, .bool false), (6, .int .i64 0)]) (by kernel_rfl) (bl40_0123456 13 false true true false false 0) (hK _ _ (Keep.refl _ _) rfl)
  go_simp
  generalize hZ : (Act.mk _ _) = Z
  refine hK Z ?_
  subst hZ
  clear hK K
  refine kAll_tn _ (fun v W W' hk h => by obtain ⟨g, e, h, hl⟩ := h; exact ⟨g, e, h.keep hk (fun h => h), hl⟩) (fun W hW hF => kStep_of fun K Q hK => ?_) (fun u0 K hK => ?_)
  · exact wp_buildRows 41 40 13 _ rfl i40 _ Tryz.underlying41 HQ40.out HY40.out HX40.out (by decide) (by decide) (by decide) (vs := [.agg #[.int .u8 1, .int .i64 0, .int .i64 0, .int .i64 0, .int .i64 0, .int .i64 0, .int .i64 0, .int .i64 0, .int .i64 0, .slice none 0 0, .slice none 0 0, .slice none 0 0, .slice none 0 0, .slice none 0 0, .bool true, .bool true, .bool false, .bool false, .bool false, .int .i64 0], .agg #[.int .u8 2, .int .i64 0, .int .i64 0, .int .i64 0, .int .i64 0, .int .i64 0, .int .i64 0, .int .i64 0, .int .i64 0, .slice none 0 0, .slice none 0 0, .slice none 0 0, .slice none 0 0, .slice none 0 0, .bool true, .bool true, .bool false, .bool false, .bool false, .int .i64 2], .agg #[.int .u8 3, .int .i64 0, .int .i64 0, .int .i64 0, .int .i64 0, .int .i64 0, .int .i64 0, .int .i64 0, .int .i64 0, .slice none 0 0, .slice none 0 0, .slice none 0 0, .slice none 0 0, .slice none 0 0, .bool true, .bool true, .bool false, .bool false, .bool false, .int .i64 1], .agg #[.int .u8 4, .int .i64 0, .int .i64 0, .int .i64 0, .int .i64 0, .int .i64 0, .int .i64 0, .int .i64 0, .int .i64 0, .slice none 0 0, .slice none 0 0, .slice none 0 0, .slice none 0 0, .slice none 0 0, .bool true, .bool true, .bool false, .bool false, .bool false, .int .i64 2], .agg #[.int .u8 5, .int .i64 0, .int .i64 0, .int .i64 0, .int .i64 0, .int .i64 0, .int .i64 0, .int .i64 0, .int .i64 0, .slice none 0 0, .slice none 0 0, .slice none 0 0, .slice none 0 0, .slice none 0 0, .bool true, .bool true, .bool true, .bool false, .bool false, .int .i64 0], .agg #[.int .u8 6, .int .i64 0, .int .i64 0, .int .i64 0, .int .i64 0, .int .i64 0, .int .i64 0, .int .i64 0, .int .i64 0, .slice none 0 0, .slice none 0 0, .slice none 0 0, .slice none 0 0, .slice none 0 0, .bool true, .bool true, .bool true, .bool false, .bool false, .int .i64 0], .agg #[.int .u8 7, .int .i64 0, .int .i64 0, .int .i64 0, .int .i64 0, .int .i64 0, .int .i64 0, .int .i64 0, .int .i64 0, .slice none 0 0, .slice none 0 0, .slice none 0 0, .slice none 0 0, .slice none 0 0, .bool true, .bool true, .bool false, .bool false, .bool true, .int .i64 0], .agg #[.int .u8 8, .int .i64 0, .int .i64 0, .int .i64 0, .int .i64 0, .int .i64 0, .int .i64 0, .int .i64 0, .int .i64 0, .slice none 0 0, .slice none 0 0, .slice none 0 0, .slice none 0 0, .slice none 0 0, .bool true, .bool true, .bool false, .bool false, .bool true, .int .i64 0], .agg #[.int .u8 9, .int .i64 0, .int .i64 0, .int .i64 0, .int .i64 0, .int .i64 0, .int .i64 0, .int .i64 0, .int .i64 0, .slice none 0 0, .slice none 0 0, .slice none 0 0, .slice none 0 0, .slice none 0 0, .bool true, .bool false, .bool true, .bool false, .bool false, .int .i64 0], .agg #[.int .u8 10, .int .i64 0, .int .i64 0, .int .i64 0, .int .i64 0, .int .i64 0, .int .i64 0, .int .i64 0, .int .i64 0, .slice none 0 0, .slice none 0 0, .slice none 0 0, .slice none 0 0, .slice none 0 0, .bool true, .bool false, .bool true, .bool true, .bool false, .int .i64 0], .agg #[.int .u8 11, .int .i64 0, .int .i64 0, .int .i64 0, .int .i64 0, .int .i64 0, .int .i64 0, .int .i64 0, .int .i64 0, .slice none 0 0, .slice none 0 0, .slice none 0 0, .slice none 0 0, .slice none 0 0, .bool true, .bool false, .bool false, .bool true, .bool false, .int .i64 0], .agg #[.int .u8 12, .int .i64 0, .int .i64 0, .int .i64 0, .int .i64 0, .int .i64 0, .int .i64 0, .int .i64 0, .int .i64 0, .slice none 0 0, .slice none 0 0, .slice none 0 0, .slice none 0 0, .slice none 0 0, .bool false, .bool true, .bool true, .bool true, .bool false, .int .i64 0], .agg #[.int .u8 13, .int .i64 0, .int .i64 0, .int .i64 0, .int .i64 0, .int .i64 0, .int .i64 0, .int .i64 0, .int .i64 0, .slice none 0 0, .slice none 0 0, .slice none 0 0, .slice none 0 0, .slice none 0 0, .bool false, .bool true, .bool true, .bool false, .bool false, .int .i64 0]]) rfl (fun v hv => by simp only [List.mem_cons, List.not_mem_nil, or_false] at hv; rcases hv with rfl | rfl | rfl | rfl | rfl | rfl | rfl | rfl | rfl | rfl | rfl | rfl | rfl <;> rfl) (by kernel_rfl) (cells := #[.int .u8 1, .int .i64 0, .int .i64 0, .int .i64 0, .int .i64 0, .int .i64 0, .int .i64 0, .int .i64 0, .int .i64 0, .slice none 0 0, .slice none 0 0, .slice none 0 0, .slice none 0 0, .slice none 0 0, .bool true, .bool true, .bool false, .bool false, .bool false, .int .i64 0, .int .u8 2, .int .i64 0, .int .i64 0, .int .i64 0, .int .i64 0, .int .i64 0, .int .i64 0, .int .i64 0, .int .i64 0, .slice none 0 0, .slice none 0 0, .slice none 0 0, .slice none 0 0, .slice none 0 0, .bool true, .bool true, .bool false, .bool false, .bool false, .int .i64 2, .int .u8 3, .int .i64 0, .int .i64 0, .int .i64 0, .int .i64 0, .int .i64 0, .int .i64 0, .int .i64 0, .int .i64 0, .slice none 0 0, .slice none 0 0, .slice none 0 0, .slice none 0 0, .slice none 0 0, .bool true, .bool true, .bool false, .bool false, .bool false, .int .i64 1, .int .u8 4, .int .i64 0, .int .i64 0, .int .i64 0, .int .i64 0, .int .i64 0, .int .i64 0, .int .i64 0, .int .i64 0, .slice none 0 0, .slice none 0 0, .slice none 0 0, .slice none 0 0, .slice none 0 0, .bool true, .bool true, .bool false, .bool false, .bool false, .int .i64 2, .int .u8 5, .int .i64 0, .int .i64 0, .int .i64 0, .int .i64 0, .int .i64 0, .int .i64 0, .int .i64 0, .int .i64 0, .slice none 0 0, .slice none 0 0, .slice none 0 0, .slice none 0 0, .slice none 0 0, .bool true, .bool true, .bool true, .bool false, .bool false, .int .i64 0, .int .u8 6, .int .i64 0, .int .i64 0, .int .i64 0, .int .i64 0, .int .i64 0, .int .i64 0, .int .i64 0, .int .i64 0, .slice none 0 0, .slice none 0 0, .slice none 0 0, .slice none 0 0, .slice none 0 0, .bool true, .bool true, .bool true, .bool false, .bool false, .int .i64 0, .int .u8 7, .int .i64 0, .int .i64 0, .int .i64 0, .int .i64 0, .int .i64 0, .int .i64 0, .int .i64 0, .int .i64 0, .slice none 0 0, .slice none 0 0, .slice none 0 0, .slice none 0 0, .slice none 0 0, .bool true, .bool true, .bool false, .bool false, .bool true, .int .i64 0, .int .u8 8, .int .i64 0, .int .i64 0, .int .i64 0, .int .i64 0, .int .i64 0, .int .i64 0, .int .i64 0, .int .i64 0, .slice none 0 0, .slice none 0 0, .slice none 0 0, .slice none 0 0, .slice none 0 0, .bool true, .bool true, .bool false, .bool false, .bool true, .int .i64 0, .int .u8 9, .int .i64 0, .int .i64 0, .int .i64 0, .int .i64 0, .int .i64 0, .int .i64 0, .int .i64 0, .int .i64 0, .slice none 0 0, .slice none 0 0, .slice none 0 0, .slice none 0 0, .slice none 0 0, .bool true, .bool false, .bool true, .bool false, .bool false, .int .i64 0, .int .u8 10, .int .i64 0, .int .i64 0, .int .i64 0, .int .i64 0, .int .i64 0, .int .i64 0, .int .i64 0, .int .i64 0, .slice none 0 0, .slice none 0 0, .slice none 0 0, .slice none 0 0, .slice none 0 0, .bool true, .bool false, .bool true, .bool true, .bool false, .int .i64 0, .int .u8 11, .int .i64 0, .int .i64 0, .int .i64 0, .int .i64 0, .int .i64 0, .int .i64 0, .int .i64 0, .int .i64 0, .slice none 0 0, .slice none 0 0, .slice none 0 0, .slice none 0 0, .slice none 0 0, .bool true, .bool false, .bool false, .bool true, .bool false, .int .i64 0, .int .u8 12, .int .i64 0, .int .i64 0, .int .i64 0, .int .i64 0, .int .i64 0, .int .i64 0, .int .i64 0, .int .i64 0, .slice none 0 0, .slice none 0 0, .slice none 0 0, .slice none 0 0, .slice none 0 0, .bool false, .bool true, .bool true, .bool true, .bool false, .int .i64 0, .int .u8 13, .int .i64 0, .int .i64 0, .int .i64 0, .int .i64 0, .int .i64 0, .int .i64 0, .int .i64 0, .int .i64 0, .slice none 0 0, .slice none 0 0, .slice none 0 0, .slice none 0 0, .slice none 0 0, .bool false, .bool true, .bool true, .bool false, .bool false, .int .i64 0]) (by kernel_rfl) (hK _ _ ((Keep.refl _ _).alloc _) ⟨_, rfl, Blk.new _ _ _, Nat.zero_le _⟩)
  go_simp
  generalize hZ : (Act.mk _ _) = Z
  refine hK Z ?_
  subst hZ
  clear hK K
  refine kAll_nil (fun W hW hF => ?_)
  obtain ⟨gX, rfl, hX, _⟩ := hF.1
  have HX := Lib.hid hX
  clear hF hX
  replace HC := Lib.hid (HC.out.keep hW (fun h => h))
  replace HS := Lib.hid (HS.out.keep hW (fun h => h))
  replace HV := Lib.hid (HV.out.keep hW (fun h => h))
  replace HA := Lib.hid (HA.out.keep hW (fun h => h))
  replace HM := Lib.hid (HM.out.keep hW (fun h => h))
  replace HF := Lib.hid (HF.out.keep hW (fun h => h))
  replace HN := Lib.hid (HN.out.keep hW (fun h => h))
  replace HR := Lib.hid (HR.out.keep hW (fun h => h))
  replace HI := Lib.hid (HI.out.keep hW (fun h => h))
  replace HO := Lib.hid (HO.out.keep hW (fun h => h))
  replace KK := Lib.hid (keep0_trans _ _ _ KK.out hW)
  clear hW
  generalize W8.heap.size = gM at *
  generalize V10.heap.size = gF at *
  generalize W13.heap.size = gN at *
  generalize V14.heap.size = gR at *
  generalize W4.heap.size = gS at *
  generalize W2.heap.size = gC at *
  generalize V5.heap.size = gV at *
  generalize V6.heap.size = gA at *
  generalize W17.heap.size = gI at *
  clear hOI
  have HVv := Lib.hid (isV_v HC.out HS.out)
  have HVa := Lib.hid (isV_a HC.out HS.out HM.out HF.out HN.out HR.out)
  clear HC HS HM HF HN HR NVA KA
  go_wp2_with fail
  go_loopw [81] (fun iv wr => ∃ k : Nat, k ≤ 13 ∧ iv = .int .i64 (k : Int) ∧ Hid (Keep (fun _ => False) W wr)) (fun iv _ => 13 - (intOf iv).toNat)
  case atStart => exact ⟨0, by omega, rfl, Lib.hid (Keep.refl _ _)⟩
  case round =>
    obtain ⟨k, hk, rfl, KR⟩ := hrel
    have e1 : IntKind.i64.wrap ((k : Int) + 1) = (k : Int) + 1 := IntWalk.i64_in _ (by omega)
    by_cases hlt : k < 13
    · have q1 : (k : Int) < 13 := by omega
      have q2 : (0 : Int) ≤ (k : Int) := by omega
      have KKr := Lib.hid (keep0_trans _ _ _ KK.out KR.out)
      have HVr := Lib.hid (HV.out.keep KR.out (fun h => h))
      have HAr := Lib.hid (HA.out.keep KR.out (fun h => h))
      have HIr := Lib.hid (HI.out.keep KR.out (fun h => h))
      have HOr := Lib.hid (HO.out.keep KR.out (fun h => h))
      have VVr := Lib.hid (HVv.out.keep0 KR.out)
      have VAr := Lib.hid (HVa.out.keep0 KR.out)
      obtain ⟨kd, b1, b2, b3, b4, b5, nv, h0, h1, h2, h3, h4, h5, h6, h7⟩ := tab_at (HX.out.keep KR.out (fun h => h)) hlt
      have HB1 := Lib.hid h1
      have HB2 := Lib.hid h2
      have HB3 := Lib.hid h3
      have HB4 := Lib.hid h4
      have HB5 := Lib.hid h5
      have HB6 := Lib.hid h6
      have HKd := Lib.hid h0
      have HXC := Lib.hid h7
      clear h0 h1 h2 h3 h4 h5 h6 h7
      go_upto_region 12 with (first | (refine wpList_load_at rfl 40 _ rfl gX (k * 20) rfl [.int .u8 (kd : Int), .int .i64 0, .int .i64 0, .int .i64 0, .int .i64 0, .int .i64 0, .int .i64 0, .int .i64 0, .int .i64 0, .slice none 0 0, .slice none 0 0, .slice none 0 0, .slice none 0 0, .slice none 0 0, .bool b1, .bool b2, .bool b3, .bool b4, .bool b5, .int .i64 nv] _ HXC.out Tryz.underlying40 rfl size40 ?_) | (refine wpList_store_row rfl 40 _ _ rfl wr.heap.size #[.int .u8 (kd : Int), .int .i64 0, .int .i64 0, .int .i64 0, .int .i64 0, .int .i64 0, .int .i64 0, .int .i64 0, .int .i64 0, .slice none 0 0, .slice none 0 0, .slice none 0 0, .slice none 0 0, .slice none 0 0, .bool b1, .bool b2, .bool b3, .bool b4, .bool b5, .int .i64 nv] rfl rfl 40 _ (Blk.new _ _ _) size40 rfl (one40 kd b1 b2 b3 b4 b5 nv) ?_; rw [alloc_setRow]))
      have hb := Blk.new wr 40 #[.int .u8 (kd : Int), .int .i64 0, .int .i64 0, .int .i64 0, .int .i64 0, .int .i64 0, .int .i64 0, .int .i64 0, .int .i64 0, .slice none 0 0, .slice none 0 0, .slice none 0 0, .slice none 0 0, .slice none 0 0, .bool b1, .bool b2, .bool b3, .bool b4, .bool b5, .int .i64 nv]
      have hk1 := (Keep.refl (fun _ => False) wr).alloc (.cells #[.int .u8 (kd : Int), .int .i64 0, .int .i64 0, .int .i64 0, .int .i64 0, .int .i64 0, .int .i64 0, .int .i64 0, .int .i64 0, .slice none 0 0, .slice none 0 0, .slice none 0 0, .slice none 0 0, .slice none 0 0, .bool b1, .bool b2, .bool b3, .bool b4, .bool b5, .int .i64 nv] 40)
      generalize wr.alloc (.cells #[.int .u8 (kd : Int), .int .i64 0, .int .i64 0, .int .i64 0, .int .i64 0, .int .i64 0, .int .i64 0, .int .i64 0, .int .i64 0, .slice none 0 0, .slice none 0 0, .slice none 0 0, .slice none 0 0, .slice none 0 0, .bool b1, .bool b2, .bool b3, .bool b4, .bool b5, .int .i64 nv] 40) = U1 at *
      have KU := Lib.hid hk1
      have HX1 := Lib.hid hb
      generalize wr.heap.size = gx at *
      clear hb hk1
      have HXF := Lib.hid (cells_at HX1.out 0 [.int .u8 (kd : Int), .int .i64 0, .int .i64 0, .int .i64 0, .int .i64 0, .int .i64 0, .int .i64 0, .int .i64 0, .int .i64 0, .slice none 0 0, .slice none 0 0, .slice none 0 0, .slice none 0 0, .slice none 0 0] (fun j v hj => (List.getElem?_toArray ..).trans (row_of [.int .u8 (kd : Int), .int .i64 0, .int .i64 0, .int .i64 0, .int .i64 0, .int .i64 0, .int .i64 0, .int .i64 0, .int .i64 0, .slice none 0 0, .slice none 0 0, .slice none 0 0, .slice none 0 0, .slice none 0 0, .bool b1, .bool b2, .bool b3, .bool b4, .bool b5, .int .i64 nv] 0 14 j v hj)))
      go_upto_region 13 with (first | (refine wpList_load_at rfl 39 _ rfl gx 0 rfl [.int .u8 (kd : Int), .int .i64 0, .int .i64 0, .int .i64 0, .int .i64 0, .int .i64 0, .int .i64 0, .int .i64 0, .int .i64 0, .slice none 0 0, .slice none 0 0, .slice none 0 0, .slice none 0 0, .slice none 0 0] _ HXF.out Tryz.underlying39 rfl size39 ?_) | (refine wpList_store_row rfl 39 _ _ rfl U1.heap.size #[.int .u8 (kd : Int), .int .i64 0, .int .i64 0, .int .i64 0, .int .i64 0, .int .i64 0, .int .i64 0, .int .i64 0, .int .i64 0, .slice none 0 0, .slice none 0 0, .slice none 0 0, .slice none 0 0, .slice none 0 0] rfl rfl 39 _ (Blk.new _ _ _) size39 rfl (one39 kd 0 0 0 0 0 0) ?_; rw [alloc_setRow]))
      have hb := Blk.new U1 39 #[.int .u8 (kd : Int), .int .i64 0, .int .i64 0, .int .i64 0, .int .i64 0, .int .i64 0, .int .i64 0, .int .i64 0, .int .i64 0, .slice none 0 0, .slice none 0 0, .slice none 0 0, .slice none 0 0, .slice none 0 0]
      have hk1 := (Keep.refl (fun _ => False) U1).alloc (.cells #[.int .u8 (kd : Int), .int .i64 0, .int .i64 0, .int .i64 0, .int .i64 0, .int .i64 0, .int .i64 0, .int .i64 0, .int .i64 0, .slice none 0 0, .slice none 0 0, .slice none 0 0, .slice none 0 0, .slice none 0 0] 39)
      generalize U1.alloc (.cells #[.int .u8 (kd : Int), .int .i64 0, .int .i64 0, .int .i64 0, .int .i64 0, .int .i64 0, .int .i64 0, .int .i64 0, .int .i64 0, .slice none 0 0, .slice none 0 0, .slice none 0 0, .slice none 0 0, .slice none 0 0] 39) = U2 at *
      have HGf := Lib.hid (show W.heap.size ≤ U1.heap.size from Nat.le_trans KR.out.size KU.out.size)
      have HGx := Lib.hid (show ¬ gx = U1.heap.size by have := Blk.lt HX1.out; omega)
      replace KU := Lib.hid (keep0_trans _ _ _ KR.out (keep0_trans _ _ _ KU.out hk1))
      replace HX1 := Lib.hid (HX1.out.keep hk1 (fun h => h))
      have HFb := Lib.hid hb
      generalize U1.heap.size = gf at *
      clear hb hk1 HXF
      have c14 := HX1.out.cell 14
      simp at c14
      go_upto_if 88 with (fail)
      go_cut [] (fun wx => ∃ f1 f2 : Int, Hid ((f1, f2) = pFr b1) ∧ Hid (Blk wx gf 39 #[.int .u8 (kd : Int), .int .i64 f1, .int .i64 f2, .int .i64 0, .int .i64 0, .int .i64 0, .int .i64 0, .int .i64 0, .int .i64 0, .slice none 0 0, .slice none 0 0, .slice none 0 0, .slice none 0 0, .slice none 0 0]) ∧ Hid (Keep (fun g => g = gf) U2 wx))
      case first =>
       as_aux_lemma =>
        have i0 := (HI.out.keep KU.out (fun h => h)).cell 0
        have i1 := (HI.out.keep KU.out (fun h => h)).cell 1
        have z1 := HFb.out.cell 1
        have z2 := HFb.out.cell 2
        have y1 := HFb.out.frozen 1
        have y2 := HFb.out.frozen 2
        simp at i0 i1 z1 z2
        cases b1
        · go_wp2
          go_meet
          case rel => exact ⟨0, 0, Lib.hid rfl, HFb, Lib.hid (Keep.refl _ _)⟩
        · go_wp2
          go_meet
          case rel => exact ⟨4, 1, Lib.hid rfl, Lib.hid (by have := (HFb.out.set_ 1 (.int .i64 4)).set_ 2 (.int .i64 1); simpa using this), Lib.hid (((Keep.refl (fun g => g = gf) U2).setCell (p := ⟨gf, 1, none⟩) (fun _ => rfl) _).setCell (p := ⟨gf, 2, none⟩) (fun _ => rfl) _)⟩
      case rest =>
      obtain ⟨f1, f2, EF1, HF1, KF1⟩ := hcut
      clear c14
      generalize wc = UC1 at *
      have c15 := (HX1.out.keep KF1.out (fun e => HGx.out e)).cell 15
      simp at c15
      go_upto_if 92 with (fail)
      go_cut [] (fun wx => ∃ t1 t2 : Int, Hid ((t1, t2) = pTo b2) ∧ Hid (Blk wx gf 39 #[.int .u8 (kd : Int), .int .i64 f1, .int .i64 f2, .int .i64 t1, .int .i64 t2, .int .i64 0, .int .i64 0, .int .i64 0, .int .i64 0, .slice none 0 0, .slice none 0 0, .slice none 0 0, .slice none 0 0, .slice none 0 0]) ∧ Hid (Keep (fun g => g = gf) UC1 wx))
      case first =>
       as_aux_lemma =>
        have i0 := (HO.out.keep (keepgf KU.out HGf.out KF1.out) (fun h => h)).cell 0
        have i1 := (HO.out.keep (keepgf KU.out HGf.out KF1.out) (fun h => h)).cell 1
        have z1 := HF1.out.cell 3
        have z2 := HF1.out.cell 4
        have y1 := HF1.out.frozen 3
        have y2 := HF1.out.frozen 4
        simp at i0 i1 z1 z2
        cases b2
        · go_wp2
          go_meet
          case rel => exact ⟨0, 0, Lib.hid rfl, HF1, Lib.hid (Keep.refl _ _)⟩
        · go_wp2
          go_meet
          case rel => exact ⟨5, 0, Lib.hid rfl, Lib.hid (by have := (HF1.out.set_ 3 (.int .i64 5)).set_ 4 (.int .i64 0); simpa using this), Lib.hid (((Keep.refl (fun g => g = gf) UC1).setCell (p := ⟨gf, 3, none⟩) (fun _ => rfl) _).setCell (p := ⟨gf, 4, none⟩) (fun _ => rfl) _)⟩
      case rest =>
      obtain ⟨t1, t2, EF2, HF2, KF2⟩ := hcut
      clear c15
      generalize wc = UC2 at *
      have c18 := ((HX1.out.keep KF1.out (fun e => HGx.out e)).keep KF2.out (fun e => HGx.out e)).cell 18
      simp at c18
      go_upto_if 96 with (fail)
      go_cut [] (fun wx => ∃ a1 a2 : Int, Hid ((a1, a2) = pFr b5) ∧ Hid (Blk wx gf 39 #[.int .u8 (kd : Int), .int .i64 f1, .int .i64 f2, .int .i64 t1, .int .i64 t2, .int .i64 0, .int .i64 0, .int .i64 a1, .int .i64 a2, .slice none 0 0, .slice none 0 0, .slice none 0 0, .slice none 0 0, .slice none 0 0]) ∧ Hid (Keep (fun g => g = gf) UC2 wx))
      case first =>
       as_aux_lemma =>
        have i0 := (HI.out.keep (keepgf (keepgf KU.out HGf.out KF1.out) HGf.out KF2.out) (fun h => h)).cell 0
        have i1 := (HI.out.keep (keepgf (keepgf KU.out HGf.out KF1.out) HGf.out KF2.out) (fun h => h)).cell 1
        have z1 := HF2.out.cell 7
        have z2 := HF2.out.cell 8
        have y1 := HF2.out.frozen 7
        have y2 := HF2.out.frozen 8
        simp at i0 i1 z1 z2
        cases b5
        · go_wp2
          go_meet
          case rel => exact ⟨0, 0, Lib.hid rfl, HF2, Lib.hid (Keep.refl _ _)⟩
        · go_wp2
          go_meet
          case rel => exact ⟨4, 1, Lib.hid rfl, Lib.hid (by have := (HF2.out.set_ 7 (.int .i64 4)).set_ 8 (.int .i64 1); simpa using this), Lib.hid (((Keep.refl (fun g => g = gf) UC2).setCell (p := ⟨gf, 7, none⟩) (fun _ => rfl) _).setCell (p := ⟨gf, 8, none⟩) (fun _ => rfl) _)⟩
      case rest =>
      obtain ⟨a1, a2, EF3, HF3, KF3⟩ := hcut
      clear c18
      have HM0 : Hid (baseF k = ⟨kd, (f1, f2), (t1, t2), 0, 0, (a1, a2), emptyVw⟩) := Lib.hid (by unfold baseF; rw [EF1.out, EF2.out, EF3.out, HB1.out, HB2.out, HB5.out, HKd.out])
      have HMay : Hid (mayF ⟨kd, (f1, f2), (t1, t2), 0, 0, (a1, a2), emptyVw⟩ = true) := Lib.hid (by rw [← HM0.out]; exact with_may hlt (i := 0) (by omega))
      have HEnc : Hid ((encM ⟨kd, (f1, f2), (t1, t2), 0, 0, (a1, a2), emptyVw⟩).2 = 0) := Lib.hid (by rw [← HM0.out]; exact with_enc hlt (i := 0) (by omega))
      have HK8 : Hid (kd < 256) := Lib.hid (by rw [HKd.out]; omega)
      have HKU := Lib.hid (show Keep (fun _ => False) W wc from keepgf (keepgf (keepgf KU.out HGf.out KF1.out) HGf.out KF2.out) HGf.out KF3.out)
      have HXc := Lib.hid (((HX1.out.keep KF1.out (fun e => HGx.out e)).keep KF2.out (fun e => HGx.out e)).keep KF3.out (fun e => HGx.out e))
      have HFc := HF3
      clear HF1 HF2 HF3 HFb HX1 KF1 KF2 KF3 KU EF1 EF2 EF3
      generalize wc = Y1 at *
      go_upto_region 19 with (fail)
      go_wp2_with (first | (refine wpList_load_row rfl 39 _ rfl gf rfl 39 _ (0, 0) _ HFc.out Tryz.underlying39 rfl size39 ?_) | fail)
      refine (may_is ⟨kd, (f1, f2), (t1, t2), 0, 0, (a1, a2), emptyVw⟩ true HMay.out _ _ _ _ _ _ HK8.out (isV_empty _) few_empty).mono ?_
      rintro e Y2 ⟨rfl, hk2⟩
      replace HKU := Lib.hid (keep0_trans _ _ _ HKU.out hk2)
      replace HXc := Lib.hid (HXc.out.keep hk2 (fun h => h))
      replace HFc := Lib.hid (HFc.out.keep hk2 (fun h => h))
      clear hk2
      go_wp2_with (first | (refine wpList_load_row rfl 39 _ rfl gf rfl 39 _ (0, 0) _ HFc.out Tryz.underlying39 rfl size39 ?_) | (refine wpList_load_rowW rfl 39 _ rfl gf rfl 39 _ (0, 0) _ HFc.out Tryz.underlying39 rfl size39 ?_) | fail)
      refine (back_any ⟨kd, (f1, f2), (t1, t2), 0, 0, (a1, a2), emptyVw⟩ _ _ _ _ _ _ HK8.out (isV_empty _) few_empty (t := (encM ⟨kd, (f1, f2), (t1, t2), 0, 0, (a1, a2), emptyVw⟩).1) (Prod.ext rfl HEnc.out)).mono ?_
      rintro e Y3 ⟨rfl, hk2⟩
      replace HKU := Lib.hid (keep0_trans _ _ _ HKU.out hk2)
      replace HXc := Lib.hid (HXc.out.keep hk2 (fun h => h))
      replace HFc := Lib.hid (HFc.out.keep hk2 (fun h => h))
      clear hk2 HMay HEnc
      go_upto_region 21 with (fail)
      obtain ⟨b6, hb6⟩ : ∃ b, decide (0 < nv) = b := ⟨_, rfl⟩
      obtain ⟨b7, hb7⟩ : ∃ b, decide (1 < nv) = b := ⟨_, rfl⟩
      have E6 := Lib.hid hb6
      have E7 := Lib.hid hb7
      clear hb6 hb7
      refine wp_region_kord (Keep (fun _ => False)) (Keep.refl _) keep0_trans 40 (Ts := [some (.inl (.agg #[.int .u8 (kd : Int), .int .i64 f1, .int .i64 f2, .int .i64 t1, .int .i64 t2, .int .i64 0, .int .i64 0, .int .i64 a1, .int .i64 a2, .slice none 0 0, .slice none 0 0, .slice none 0 0, .slice none 0 0, .slice none 0 0])), some (.inl (.agg #[.int .u8 (kd : Int), .int .i64 f1, .int .i64 f2, .int .i64 t1, .int .i64 t2, .int .i64 0, .int .i64 0, .int .i64 a1, .int .i64 a2, .slice none 0 0, .slice none 0 0, .slice none 0 0, .slice none 0 0, .slice none 0 0, .bool true])), some (.inl (.agg #[.int .u8 (kd : Int), .int .i64 f1, .int .i64 f2, .int .i64 t1, .int .i64 t2, .int .i64 0, .int .i64 0, .int .i64 a1, .int .i64 a2, .slice none 0 0, .slice none 0 0, .slice none 0 0, .slice none 0 0, .slice none 0 0])), none, some (.inl (.bool b3)), some (.inl (.agg #[.int .u8 (kd : Int), .int .i64 f1, .int .i64 f2, .int .i64 t1, .int .i64 t2, .int .i64 0, .int .i64 0, .int .i64 a1, .int .i64 a2, .slice none 0 0, .slice none 0 0, .slice none 0 0, .slice none 0 0, .slice none 0 0, .bool b3])), some (.inl (.agg #[.int .u8 (kd : Int), .int .i64 f1, .int .i64 f2, .int .i64 t1, .int .i64 t2, .int .i64 0, .int .i64 0, .int .i64 a1, .int .i64 a2, .slice none 0 0, .slice none 0 0, .slice none 0 0, .slice none 0 0, .slice none 0 0])), none, some (.inl (.bool b4)), some (.inl (.agg #[.int .u8 (kd : Int), .int .i64 f1, .int .i64 f2, .int .i64 t1, .int .i64 t2, .int .i64 0, .int .i64 0, .int .i64 a1, .int .i64 a2, .slice none 0 0, .slice none 0 0, .slice none 0 0, .slice none 0 0, .slice none 0 0, .bool b4])), some (.inl (.agg #[.int .u8 (kd : Int), .int .i64 f1, .int .i64 f2, .int .i64 t1, .int .i64 t2, .int .i64 0, .int .i64 0, .int .i64 a1, .int .i64 a2, .slice none 0 0, .slice none 0 0, .slice none 0 0, .slice none 0 0, .slice none 0 0])), none, some (.inl (.bool b1)), some (.inl (.agg #[.int .u8 (kd : Int), .int .i64 f1, .int .i64 f2, .int .i64 t1, .int .i64 t2, .int .i64 0, .int .i64 0, .int .i64 a1, .int .i64 a2, .slice none 0 0, .slice none 0 0, .slice none 0 0, .slice none 0 0, .slice none 0 0, .bool b1])), some (.inl (.agg #[.int .u8 (kd : Int), .int .i64 f1, .int .i64 f2, .int .i64 t1, .int .i64 t2, .int .i64 0, .int .i64 0, .int .i64 a1, .int .i64 a2, .slice none 0 0, .slice none 0 0, .slice none 0 0, .slice none 0 0, .slice none 0 0])), none, some (.inl (.bool b2)), some (.inl (.agg #[.int .u8 (kd : Int), .int .i64 f1, .int .i64 f2, .int .i64 t1, .int .i64 t2, .int .i64 0, .int .i64 0, .int .i64 a1, .int .i64 a2, .slice none 0 0, .slice none 0 0, .slice none 0 0, .slice none 0 0, .slice none 0 0, .bool b2])), some (.inl (.agg #[.int .u8 (kd : Int), .int .i64 f1, .int .i64 f2, .int .i64 t1, .int .i64 t2, .int .i64 0, .int .i64 0, .int .i64 a1, .int .i64 a2, .slice none 0 0, .slice none 0 0, .slice none 0 0, .slice none 0 0, .slice none 0 0])), none, some (.inl (.bool b5)), some (.inl (.agg #[.int .u8 (kd : Int), .int .i64 f1, .int .i64 f2, .int .i64 t1, .int .i64 t2, .int .i64 0, .int .i64 0, .int .i64 a1, .int .i64 a2, .slice none 0 0, .slice none 0 0, .slice none 0 0, .slice none 0 0, .slice none 0 0, .bool b5])), some (.inl (.agg #[.int .u8 (kd : Int), .int .i64 f1, .int .i64 f2, .int .i64 t1, .int .i64 t2, .int .i64 0, .int .i64 0, .int .i64 a1, .int .i64 a2, .slice none 0 0, .slice none 0 0, .slice none 0 0, .slice none 0 0, .slice none 0 0])), none, some (.inl (.int .i64 nv)), some (.inl (.bool b6)), some (.inl (.agg #[.int .u8 (kd : Int), .int .i64 f1, .int .i64 f2, .int .i64 t1, .int .i64 t2, .int .i64 0, .int .i64 0, .int .i64 a1, .int .i64 a2, .slice none 0 0, .slice none 0 0, .slice none 0 0, .slice none 0 0, .slice none 0 0, .bool b6])), some (.inl (.agg #[.int .u8 (kd : Int), .int .i64 f1, .int .i64 f2, .int .i64 t1, .int .i64 t2, .int .i64 0, .int .i64 0, .int .i64 a1, .int .i64 a2, .slice none 0 0, .slice none 0 0, .slice none 0 0, .slice none 0 0, .slice none 0 0])), none, some (.inl (.int .i64 nv)), some (.inl (.bool b7)), some (.inl (.agg #[.int .u8 (kd : Int), .int .i64 f1, .int .i64 f2, .int .i64 t1, .int .i64 t2, .int .i64 0, .int .i64 0, .int .i64 a1, .int .i64 a2, .slice none 0 0, .slice none 0 0, .slice none 0 0, .slice none 0 0, .slice none 0 0, .bool b7])), some (.inl (.agg #[.int .u8 (kd : Int), .int .i64 f1, .int .i64 f2, .int .i64 t1, .int .i64 t2, .int .i64 0, .int .i64 0, .int .i64 a1, .int .i64 a2, .slice none 0 0, .slice none 0 0, .slice none 0 0, .slice none 0 0, .slice none 0 0])), some (.inl (.agg #[.int .u8 (kd : Int), .int .i64 f1, .int .i64 f2, .int .i64 t1, .int .i64 t2, .int .i64 0, .int .i64 0, .int .i64 a1, .int .i64 a2, .slice none 0 0, .slice none 0 0, .slice none 0 0, .slice none 0 0, .slice none 0 0, .bool false])), some (.inl (.agg #[.int .u8 (kd : Int), .int .i64 f1, .int .i64 f2, .int .i64 t1, .int .i64 t2, .int .i64 0, .int .i64 0, .int .i64 a1, .int .i64 a2, .slice none 0 0, .slice none 0 0, .slice none 0 0, .slice none 0 0, .slice none 0 0])), some (.inl (.agg #[.int .u8 (kd : Int), .int .i64 f1, .int .i64 f2, .int .i64 t1, .int .i64 t2, .int .i64 0, .int .i64 0, .int .i64 a1, .int .i64 a2, .slice none 0 0, .slice none 0 0, .slice none 0 0, .slice none 0 0, .slice none 0 0, .bool false])), some (.inl (.agg #[.int .u8 (kd : Int), .int .i64 f1, .int .i64 f2, .int .i64 t1, .int .i64 t2, .int .i64 0, .int .i64 0, .int .i64 a1, .int .i64 a2, .slice none 0 0, .slice none 0 0, .slice none 0 0, .slice none 0 0, .slice none 0 0])), some (.inl (.agg #[.int .u8 (kd : Int), .int .i64 f1, .int .i64 f2, .int .i64 t1, .int .i64 t2, .int .i64 0, .int .i64 0, .int .i64 a1, .int .i64 a2, .slice none 0 0, .slice none 0 0, .slice none 0 0, .slice none 0 0, .slice none 0 0, .bool false])), some (.inr (fun v W => ∃ g, v = .slice (some ⟨g, 0, none⟩) 11 11 ∧ Blk W g 43 #[.int .u8 (kd : Int), .int .i64 f1, .int .i64 f2, .int .i64 t1, .int .i64 t2, .int .i64 0, .int .i64 0, .int .i64 a1, .int .i64 a2, .slice none 0 0, .slice none 0 0, .slice none 0 0, .slice none 0 0, .slice none 0 0, .bool true, .int .u8 (kd : Int), .int .i64 f1, .int .i64 f2, .int .i64 t1, .int .i64 t2, .int .i64 0, .int .i64 0, .int .i64 a1, .int .i64 a2, .slice none 0 0, .slice none 0 0, .slice none 0 0, .slice none 0 0, .slice none 0 0, .bool b3, .int .u8 (kd : Int), .int .i64 f1, .int .i64 f2, .int .i64 t1, .int .i64 t2, .int .i64 0, .int .i64 0, .int .i64 a1, .int .i64 a2, .slice none 0 0, .slice none 0 0, .slice none 0 0, .slice none 0 0, .slice none 0 0, .bool b4, .int .u8 (kd : Int), .int .i64 f1, .int .i64 f2, .int .i64 t1, .int .i64 t2, .int .i64 0, .int .i64 0, .int .i64 a1, .int .i64 a2, .slice none 0 0, .slice none 0 0, .slice none 0 0, .slice none 0 0, .slice none 0 0, .bool b1, .int .u8 (kd : Int), .int .i64 f1, .int .i64 f2, .int .i64 t1, .int .i64 t2, .int .i64 0, .int .i64 0, .int .i64 a1, .int .i64 a2, .slice none 0 0, .slice none 0 0, .slice none 0 0, .slice none 0 0, .slice none 0 0, .bool b2, .int .u8 (kd : Int), .int .i64 f1, .int .i64 f2, .int .i64 t1, .int .i64 t2, .int .i64 0, .int .i64 0, .int .i64 a1, .int .i64 a2, .slice none 0 0, .slice none 0 0, .slice none 0 0, .slice none 0 0, .slice none 0 0, .bool b5, .int .u8 (kd : Int), .int .i64 f1, .int .i64 f2, .int .i64 t1, .int .i64 t2, .int .i64 0, .int .i64 0, .int .i64 a1, .int .i64 a2, .slice none 0 0, .slice none 0 0, .slice none 0 0, .slice none 0 0, .slice none 0 0, .bool b6, .int .u8 (kd : Int), .int .i64 f1, .int .i64 f2, .int .i64 t1, .int .i64 t2, .int .i64 0, .int .i64 0, .int .i64 a1, .int .i64 a2, .slice none 0 0, .slice none 0 0, .slice none 0 0, .slice none 0 0, .slice none 0 0, .bool b7, .int .u8 (kd : Int), .int .i64 f1, .int .i64 f2, .int .i64 t1, .int .i64 t2, .int .i64 0, .int .i64 0, .int .i64 a1, .int .i64 a2, .slice none 0 0, .slice none 0 0, .slice none 0 0, .slice none 0 0, .slice none 0 0, .bool false, .int .u8 (kd : Int), .int .i64 f1, .int .i64 f2, .int .i64 t1, .int .i64 t2, .int .i64 0, .int .i64 0, .int .i64 a1, .int .i64 a2, .slice none 0 0, .slice none 0 0, .slice none 0 0, .slice none 0 0, .slice none 0 0, .bool false, .int .u8 (kd : Int), .int .i64 f1, .int .i64 f2, .int .i64 t1, .int .i64 t2, .int .i64 0, .int .i64 0, .int .i64 a1, .int .i64 a2, .slice none 0 0, .slice none 0 0, .slice none 0 0, .slice none 0 0, .slice none 0 0, .bool false] ∧ Y3.heap.size ≤ g)), none]) ?_
      simp only [List.take, List.drop]
      refine kAll_dn _ (fun W hW hF => kStep_of fun K Q hK => ?_) (fun K hK => ?_)
      · exact wp_load_row 39 _ rfl gf rfl 39 _ (0, 0) _ (HFc.out.keep hW (fun h => h)) Tryz.underlying39 rfl size39 (hK _ _ (Keep.refl _ _) rfl)
      go_simp
      generalize hZ : (Act.mk _ _) = Z
      refine hK Z ?_
      subst hZ
      clear hK K
      refine kAll_dn _ (fun W hW hF => kStep_of fun K Q hK => ?_) (fun K hK => ?_)
      · exact wp_build_is 43 _ rfl (l := [(0, .agg #[.int .u8 (kd : Int), .int .i64 f1, .int .i64 f2, .int .i64 t1, .int .i64 t2, .int .i64 0, .int .i64 0, .int .i64 a1, .int .i64 a2, .slice none 0 0, .slice none 0 0, .slice none 0 0, .slice none 0 0, .slice none 0 0]), (1, .bool true)]) (by kernel_rfl) (bl43_01 kd f1 f2 t1 t2 a1 a2 true) (hK _ _ (Keep.refl _ _) rfl)
      go_simp
      generalize hZ : (Act.mk _ _) = Z
      refine hK Z ?_
      subst hZ
      clear hK K
      refine kAll_dn _ (fun W hW hF => kStep_of fun K Q hK => ?_) (fun K hK => ?_)
      · exact wp_load_row 39 _ rfl gf rfl 39 _ (0, 0) _ (HFc.out.keep hW (fun h => h)) Tryz.underlying39 rfl size39 (hK _ _ (Keep.refl _ _) rfl)
      go_simp
      generalize hZ : (Act.mk _ _) = Z
      refine hK Z ?_
      subst hZ
      clear hK K
      refine kAll_p (fun K hK => ?_)
      go_simp
      generalize hZ : (Act.mk _ _) = Z
      refine hK Z ?_
      subst hZ
      clear hK K
      refine kAll_dn _ (fun W hW hF => kStep_of fun K Q hK => ?_) (fun K hK => ?_)
      · have c0 := (HXc.out.keep hW (fun h => h)).cell 16
        simp at c0
        go_simp
        exact hK _ _ (Keep.refl _ _) rfl
      go_simp
      generalize hZ : (Act.mk _ _) = Z
      refine hK Z ?_
      subst hZ
      clear hK K
      refine kAll_dn _ (fun W hW hF => kStep_of fun K Q hK => ?_) (fun K hK => ?_)
      · exact wp_build_is 43 _ rfl (l := [(0, .agg #[.int .u8 (kd : Int), .int .i64 f1, .int .i64 f2, .int .i64 t1, .int .i64 t2, .int .i64 0, .int .i64 0, .int .i64 a1, .int .i64 a2, .slice none 0 0, .slice none 0 0, .slice none 0 0, .slice none 0 0, .slice none 0 0]), (1, .bool b3)]) (by kernel_rfl) (bl43_01 kd f1 f2 t1 t2 a1 a2 b3) (hK _ _ (Keep.refl _ _) rfl)
      go_simp
      generalize hZ : (Act.mk _ _) = Z
      refine hK Z ?_
      subst hZ
      clear hK K
      refine kAll_dn _ (fun W hW hF => kStep_of fun K Q hK => ?_) (fun K hK => ?_)
      · exact wp_load_row 39 _ rfl gf rfl 39 _ (0, 0) _ (HFc.out.keep hW (fun h => h)) Tryz.underlying39 rfl size39 (hK _ _ (Keep.refl _ _) rfl)
      go_simp
      generalize hZ : (Act.mk _ _) = Z
      refine hK Z ?_
      subst hZ
      clear hK K
      refine kAll_p (fun K hK => ?_)
      go_simp
      generalize hZ : (Act.mk _ _) = Z
      refine hK Z ?_
      subst hZ
      clear hK K
      refine kAll_dn _ (fun W hW hF => kStep_of fun K Q hK => ?_) (fun K hK => ?_)
      · have c0 := (HXc.out.keep hW (fun h => h)).cell 17
        simp at c0
        go_simp
        exact hK _ _ (Keep.refl _ _) rfl
      go_simp
      generalize hZ : (Act.mk _ _) = Z
      refine hK Z ?_
      subst hZ
      clear hK K
      refine kAll_dn _ (fun W hW hF => kStep_of fun K Q hK => ?_) (fun K hK => ?_)
      · exact wp_build_is 43 _ rfl (l := [(0, .agg #[.int .u8 (kd : Int), .int .i64 f1, .int .i64 f2, .int .i64 t1, .int .i64 t2, .int .i64 0, .int .i64 0, .int .i64 a1, .int .i64 a2, .slice none 0 0, .slice none 0 0, .slice none 0 0, .slice none 0 0, .slice none 0 0]), (1, .bool b4)]) (by kernel_rfl) (bl43_01 kd f1 f2 t1 t2 a1 a2 b4) (hK _ _ (Keep.refl _ _) rfl)
      go_simp
      generalize hZ : (Act.mk _ _) = Z
      refine hK Z ?_
      subst hZ
      clear hK K
      refine kAll_dn _ (fun W hW hF => kStep_of fun K Q hK => ?_) (fun K hK => ?_)
      · exact wp_load_row 39 _ rfl gf rfl 39 _ (0, 0) _ (HFc.out.keep hW (fun h => h)) Tryz.underlying39 rfl size39 (hK _ _ (Keep.refl _ _) rfl)
      go_simp
      generalize hZ : (Act.mk _ _) = Z
      refine hK Z ?_
      subst hZ
      clear hK K
      refine kAll_p (fun K hK => ?_)
      go_simp
      generalize hZ : (Act.mk _ _) = Z
      refine hK Z ?_
      subst hZ
      clear hK K
      refine kAll_dn _ (fun W hW hF => kStep_of fun K Q hK => ?_) (fun K hK => ?_)
      · have c0 := (HXc.out.keep hW (fun h => h)).cell 14
        simp at c0
        go_simp
        exact hK _ _ (Keep.refl _ _) rfl
      go_simp
      generalize hZ : (Act.mk _ _) = Z
      refine hK Z ?_
      subst hZ
      clear hK K
      refine kAll_dn _ (fun W hW hF => kStep_of fun K Q hK => ?_) (fun K hK => ?_)
      · exact wp_build_is 43 _ rfl (l := [(0, .agg #[.int .u8 (kd : Int), .int .i64 f1, .int .i64 f2, .int .i64 t1, .int .i64 t2, .int .i64 0, .int .i64 0, .int .i64 a1, .int .i64 a2, .slice none 0 0, .slice none 0 0, .slice none 0 0, .slice none 0 0, .slice none 0 0]), (1, .bool b1)]) (by kernel_rfl) (bl43_01 kd f1 f2 t1 t2 a1 a2 b1) (hK _ _ (Keep.refl _ _) rfl)
      go_simp
      generalize hZ : (Act.mk _ _) = Z
      refine hK Z ?_
      subst hZ
      clear hK K
      refine kAll_dn _ (fun W hW hF => kStep_of fun K Q hK => ?_) (fun K hK => ?_)
      · exact wp_load_row 39 _ rfl gf rfl 39 _ (0, 0) _ (HFc.out.keep hW (fun h => h)) Tryz.underlying39 rfl size39 (hK _ _ (Keep.refl _ _) rfl)
      go_simp
      generalize hZ : (Act.mk _ _) = Z
      refine hK Z ?_
      subst hZ
      clear hK K
      refine kAll_p (fun K hK => ?_)
      go_simp
      generalize hZ : (Act.mk _ _) = Z
      refine hK Z ?_
      subst hZ
      clear hK K
      refine kAll_dn _ (fun W hW hF => kStep_of fun K Q hK => ?_) (fun K hK => ?_)
      · have c0 := (HXc.out.keep hW (fun h => h)).cell 15
        simp at c0
        go_simp
        exact hK _ _ (Keep.refl _ _) rfl
      go_simp
      generalize hZ : (Act.mk _ _) = Z
      refine hK Z ?_
      subst hZ
      clear hK K
      refine kAll_dn _ (fun W hW hF => kStep_of fun K Q hK => ?_) (fun K hK => ?_)
      · exact wp_build_is 43 _ rfl (l := [(0, .agg #[.int .u8 (kd : Int), .int .i64 f1, .int .i64 f2, .int .i64 t1, .int .i64 t2, .int .i64 0, .int .i64 0, .int .i64 a1, .int .i64 a2, .slice none 0 0, .slice none 0 0, .slice none 0 0, .slice none 0 0, .slice none 0 0]), (1, .bool b2)]) (by kernel_rfl) (bl43_01 kd f1 f2 t1 t2 a1 a2 b2) (hK _ _ (Keep.refl _ _) rfl)
      go_simp
      generalize hZ : (Act.mk _ _) = Z
      refine hK Z ?_
      subst hZ
      clear hK K
      refine kAll_dn _ (fun W hW hF => kStep_of fun K Q hK => ?_) (fun K hK => ?_)
      · exact wp_load_row 39 _ rfl gf rfl 39 _ (0, 0) _ (HFc.out.keep hW (fun h => h)) Tryz.underlying39 rfl size39 (hK _ _ (Keep.refl _ _) rfl)
      go_simp
      generalize hZ : (Act.mk _ _) = Z
      refine hK Z ?_
      subst hZ
      clear hK K
      refine kAll_p (fun K hK => ?_)
      go_simp
      generalize hZ : (Act.mk _ _) = Z
      refine hK Z ?_
      subst hZ
      clear hK K
      refine kAll_dn _ (fun W hW hF => kStep_of fun K Q hK => ?_) (fun K hK => ?_)
      · have c0 := (HXc.out.keep hW (fun h => h)).cell 18
        simp at c0
        go_simp
        exact hK _ _ (Keep.refl _ _) rfl
      go_simp
      generalize hZ : (Act.mk _ _) = Z
      refine hK Z ?_
      subst hZ
      clear hK K
      refine kAll_dn _ (fun W hW hF => kStep_of fun K Q hK => ?_) (fun K hK => ?_)
      · exact wp_build_is 43 _ rfl (l := [(0, .agg #[.int .u8 (kd : Int), .int .i64 f1, .int .i64 f2, .int .i64 t1, .int .i64 t2, .int .i64 0, .int .i64 0, .int .i64 a1, .int .i64 a2, .slice none 0 0, .slice none 0 0, .slice none 0 0, .slice none 0 0, .slice none 0 0]), (1, .bool b5)]) (by kernel_rfl) (bl43_01 kd f1 f2 t1 t2 a1 a2 b5) (hK _ _ (Keep.refl _ _) rfl)
      go_simp
      generalize hZ : (Act.mk _ _) = Z
      refine hK Z ?_
      subst hZ
      clear hK K
      refine kAll_dn _ (fun W hW hF => kStep_of fun K Q hK => ?_) (fun K hK => ?_)
      · exact wp_load_row 39 _ rfl gf rfl 39 _ (0, 0) _ (HFc.out.keep hW (fun h => h)) Tryz.underlying39 rfl size39 (hK _ _ (Keep.refl _ _) rfl)
      go_simp
      generalize hZ : (Act.mk _ _) = Z
      refine hK Z ?_
      subst hZ
      clear hK K
      refine kAll_p (fun K hK => ?_)
      go_simp
      generalize hZ : (Act.mk _ _) = Z
      refine hK Z ?_
      subst hZ
      clear hK K
      refine kAll_dn _ (fun W hW hF => kStep_of fun K Q hK => ?_) (fun K hK => ?_)
      · have c0 := (HXc.out.keep hW (fun h => h)).cell 19
        simp at c0
        go_simp
        exact hK _ _ (Keep.refl _ _) rfl
      go_simp
      generalize hZ : (Act.mk _ _) = Z
      refine hK Z ?_
      subst hZ
      clear hK K
      refine kAll_dn _ (fun W hW hF => kStep_of fun K Q hK => ?_) (fun K hK => ?_)
      · go_simp
        first | exact hK _ _ (Keep.refl _ _) (congrArg Value.bool E6.out) | (simp only [E6.out]; exact hK _ _ (Keep.refl _ _) rfl)
      go_simp
      generalize hZ : (Act.mk _ _) = Z
      refine hK Z ?_
      subst hZ
      clear hK K
      refine kAll_dn _ (fun W hW hF => kStep_of fun K Q hK => ?_) (fun K hK => ?_)
      · exact wp_build_is 43 _ rfl (l := [(0, .agg #[.int .u8 (kd : Int), .int .i64 f1, .int .i64 f2, .int .i64 t1, .int .i64 t2, .int .i64 0, .int .i64 0, .int .i64 a1, .int .i64 a2, .slice none 0 0, .slice none 0 0, .slice none 0 0, .slice none 0 0, .slice none 0 0]), (1, .bool b6)]) (by kernel_rfl) (bl43_01 kd f1 f2 t1 t2 a1 a2 b6) (hK _ _ (Keep.refl _ _) rfl)
      go_simp
      generalize hZ : (Act.mk _ _) = Z
      refine hK Z ?_
      subst hZ
      clear hK K
      refine kAll_dn _ (fun W hW hF => kStep_of fun K Q hK => ?_) (fun K hK => ?_)
      · exact wp_load_row 39 _ rfl gf rfl 39 _ (0, 0) _ (HFc.out.keep hW (fun h => h)) Tryz.underlying39 rfl size39 (hK _ _ (Keep.refl _ _) rfl)
      go_simp
      generalize hZ : (Act.mk _ _) = Z
      refine hK Z ?_
      subst hZ
      clear hK K
      refine kAll_p (fun K hK => ?_)
      go_simp
      generalize hZ : (Act.mk _ _) = Z
      refine hK Z ?_
      subst hZ
      clear hK K
      refine kAll_dn _ (fun W hW hF => kStep_of fun K Q hK => ?_) (fun K hK => ?_)
      · have c0 := (HXc.out.keep hW (fun h => h)).cell 19
        simp at c0
        go_simp
        exact hK _ _ (Keep.refl _ _) rfl
      go_simp
      generalize hZ : (Act.mk _ _) = Z
      refine hK Z ?_
      subst hZ
      clear hK K
      refine kAll_dn _ (fun W hW hF => kStep_of fun K Q hK => ?_) (fun K hK => ?_)
      · go_simp
        first | exact hK _ _ (Keep.refl _ _) (congrArg Value.bool E7.out) | (simp only [E7.out]; exact hK _ _ (Keep.refl _ _) rfl)
      go_simp
      generalize hZ : (Act.mk _ _) = Z
      refine hK Z ?_
      subst hZ
      clear hK K
      refine kAll_dn _ (fun W hW hF => kStep_of fun K Q hK => ?_) (fun K hK => ?_)
      · exact wp_build_is 43 _ rfl (l := [(0, .agg #[.int .u8 (kd : Int), .int .i64 f1, .int .i64 f2, .int .i64 t1, .int .i64 t2, .int .i64 0, .int .i64 0, .int .i64 a1, .int .i64 a2, .slice none 0 0, .slice none 0 0, .slice none 0 0, .slice none 0 0, .slice none 0 0]), (1, .bool b7)]) (by kernel_rfl) (bl43_01 kd f1 f2 t1 t2 a1 a2 b7) (hK _ _ (Keep.refl _ _) rfl)
      go_simp
      generalize hZ : (Act.mk _ _) = Z
      refine hK Z ?_
      subst hZ
      clear hK K
      refine kAll_dn _ (fun W hW hF => kStep_of fun K Q hK => ?_) (fun K hK => ?_)
      · exact wp_load_row 39 _ rfl gf rfl 39 _ (0, 0) _ (HFc.out.keep hW (fun h => h)) Tryz.underlying39 rfl size39 (hK _ _ (Keep.refl _ _) rfl)
      go_simp
      generalize hZ : (Act.mk _ _) = Z
      refine hK Z ?_
      subst hZ
      clear hK K
      refine kAll_dn _ (fun W hW hF => kStep_of fun K Q hK => ?_) (fun K hK => ?_)
      · exact wp_build_is 43 _ rfl (l := [(0, .agg #[.int .u8 (kd : Int), .int .i64 f1, .int .i64 f2, .int .i64 t1, .int .i64 t2, .int .i64 0, .int .i64 0, .int .i64 a1, .int .i64 a2, .slice none 0 0, .slice none 0 0, .slice none 0 0, .slice none 0 0, .slice none 0 0]), (1, .bool false)]) (by kernel_rfl) (bl43_01 kd f1 f2 t1 t2 a1 a2 false) (hK _ _ (Keep.refl _ _) rfl)
      go_simp
      generalize hZ : (Act.mk _ _) = Z
      refine hK Z ?_
      subst hZ
      clear hK K
      refine kAll_dn _ (fun W hW hF => kStep_of fun K Q hK => ?_) (fun K hK => ?_)
      · exact wp_load_row 39 _ rfl gf rfl 39 _ (0, 0) _ (HFc.out.keep hW (fun h => h)) Tryz.underlying39 rfl size39 (hK _ _ (Keep.refl _ _) rfl)
      go_simp
      generalize hZ : (Act.mk _ _) = Z
      refine hK Z ?_
      subst hZ
      clear hK K
      refine kAll_dn _ (fun W hW hF => kStep_of fun K Q hK => ?_) (fun K hK => ?_)
      · exact wp_build_is 43 _ rfl (l := [(0, .agg #[.int .u8 (kd : Int), .int .i64 f1, .int .i64 f2, .int .i64 t1, .int .i64 t2, .int .i64 0, .int .i64 0, .int .i64 a1, .int .i64 a2, .slice none 0 0, .slice none 0 0, .slice none 0 0, .slice none 0 0, .slice none 0 0]), (1, .bool false)]) (by kernel_rfl) (bl43_01 kd f1 f2 t1 t2 a1 a2 false) (hK _ _ (Keep.refl _ _) rfl)
      go_simp
      generalize hZ : (Act.mk _ _) = Z
      refine hK Z ?_
      subst hZ
      clear hK K
      refine kAll_dn _ (fun W hW hF => kStep_of fun K Q hK => ?_) (fun K hK => ?_)
      · exact wp_load_row 39 _ rfl gf rfl 39 _ (0, 0) _ (HFc.out.keep hW (fun h => h)) Tryz.underlying39 rfl size39 (hK _ _ (Keep.refl _ _) rfl)
      go_simp
      generalize hZ : (Act.mk _ _) = Z
      refine hK Z ?_
      subst hZ
      clear hK K
      refine kAll_dn _ (fun W hW hF => kStep_of fun K Q hK => ?_) (fun K hK => ?_)
      · exact wp_build_is 43 _ rfl (l := [(0, .agg #[.int .u8 (kd : Int), .int .i64 f1, .int .i64 f2, .int .i64 t1, .int .i64 t2, .int .i64 0, .int .i64 0, .int .i64 a1, .int .i64 a2, .slice none 0 0, .slice none 0 0, .slice none 0 0, .slice none 0 0, .slice none 0 0]), (1, .bool false)]) (by kernel_rfl) (bl43_01 kd f1 f2 t1 t2 a1 a2 false) (hK _ _ (Keep.refl _ _) rfl)
      go_simp
      generalize hZ : (Act.mk _ _) = Z
      refine hK Z ?_
      subst hZ
      clear hK K
      refine kAll_tn _ (fun v W W' hk h => by obtain ⟨g, e, h, hl⟩ := h; exact ⟨g, e, h.keep hk (fun h => h), hl⟩) (fun W hW hF => kStep_of fun K Q hK => ?_) (fun u0 K hK => ?_)
      · exact wp_buildRows 44 43 11 _ rfl i43 _ Tryz.underlying44 HQ43.out HY43.out HX43.out (by decide) (by decide) (by decide) (vs := [.agg #[.int .u8 (kd : Int), .int .i64 f1, .int .i64 f2, .int .i64 t1, .int .i64 t2, .int .i64 0, .int .i64 0, .int .i64 a1, .int .i64 a2, .slice none 0 0, .slice none 0 0, .slice none 0 0, .slice none 0 0, .slice none 0 0, .bool true], .agg #[.int .u8 (kd : Int), .int .i64 f1, .int .i64 f2, .int .i64 t1, .int .i64 t2, .int .i64 0, .int .i64 0, .int .i64 a1, .int .i64 a2, .slice none 0 0, .slice none 0 0, .slice none 0 0, .slice none 0 0, .slice none 0 0, .bool b3], .agg #[.int .u8 (kd : Int), .int .i64 f1, .int .i64 f2, .int .i64 t1, .int .i64 t2, .int .i64 0, .int .i64 0, .int .i64 a1, .int .i64 a2, .slice none 0 0, .slice none 0 0, .slice none 0 0, .slice none 0 0, .slice none 0 0, .bool b4], .agg #[.int .u8 (kd : Int), .int .i64 f1, .int .i64 f2, .int .i64 t1, .int .i64 t2, .int .i64 0, .int .i64 0, .int .i64 a1, .int .i64 a2, .slice none 0 0, .slice none 0 0, .slice none 0 0, .slice none 0 0, .slice none 0 0, .bool b1], .agg #[.int .u8 (kd : Int), .int .i64 f1, .int .i64 f2, .int .i64 t1, .int .i64 t2, .int .i64 0, .int .i64 0, .int .i64 a1, .int .i64 a2, .slice none 0 0, .slice none 0 0, .slice none 0 0, .slice none 0 0, .slice none 0 0, .bool b2], .agg #[.int .u8 (kd : Int), .int .i64 f1, .int .i64 f2, .int .i64 t1, .int .i64 t2, .int .i64 0, .int .i64 0, .int .i64 a1, .int .i64 a2, .slice none 0 0, .slice none 0 0, .slice none 0 0, .slice none 0 0, .slice none 0 0, .bool b5], .agg #[.int .u8 (kd : Int), .int .i64 f1, .int .i64 f2, .int .i64 t1, .int .i64 t2, .int .i64 0, .int .i64 0, .int .i64 a1, .int .i64 a2, .slice none 0 0, .slice none 0 0, .slice none 0 0, .slice none 0 0, .slice none 0 0, .bool b6], .agg #[.int .u8 (kd : Int), .int .i64 f1, .int .i64 f2, .int .i64 t1, .int .i64 t2, .int .i64 0, .int .i64 0, .int .i64 a1, .int .i64 a2, .slice none 0 0, .slice none 0 0, .slice none 0 0, .slice none 0 0, .slice none 0 0, .bool b7], .agg #[.int .u8 (kd : Int), .int .i64 f1, .int .i64 f2, .int .i64 t1, .int .i64 t2, .int .i64 0, .int .i64 0, .int .i64 a1, .int .i64 a2, .slice none 0 0, .slice none 0 0, .slice none 0 0, .slice none 0 0, .slice none 0 0, .bool false], .agg #[.int .u8 (kd : Int), .int .i64 f1, .int .i64 f2, .int .i64 t1, .int .i64 t2, .int .i64 0, .int .i64 0, .int .i64 a1, .int .i64 a2, .slice none 0 0, .slice none 0 0, .slice none 0 0, .slice none 0 0, .slice none 0 0, .bool false], .agg #[.int .u8 (kd : Int), .int .i64 f1, .int .i64 f2, .int .i64 t1, .int .i64 t2, .int .i64 0, .int .i64 0, .int .i64 a1, .int .i64 a2, .slice none 0 0, .slice none 0 0, .slice none 0 0, .slice none 0 0, .slice none 0 0, .bool false]]) rfl (fun v hv => by simp only [List.mem_cons, List.not_mem_nil, or_false] at hv; rcases hv with rfl | rfl | rfl | rfl | rfl | rfl | rfl | rfl | rfl | rfl | rfl <;> rfl) (by kernel_rfl) (cells := #[.int .u8 (kd : Int), .int .i64 f1, .int .i64 f2, .int .i64 t1, .int .i64 t2, .int .i64 0, .int .i64 0, .int .i64 a1, .int .i64 a2, .slice none 0 0, .slice none 0 0, .slice none 0 0, .slice none 0 0, .slice none 0 0, .bool true, .int .u8 (kd : Int), .int .i64 f1, .int .i64 f2, .int .i64 t1, .int .i64 t2, .int .i64 0, .int .i64 0, .int .i64 a1, .int .i64 a2, .slice none 0 0, .slice none 0 0, .slice none 0 0, .slice none 0 0, .slice none 0 0, .bool b3, .int .u8 (kd : Int), .int .i64 f1, .int .i64 f2, .int .i64 t1, .int .i64 t2, .int .i64 0, .int .i64 0, .int .i64 a1, .int .i64 a2, .slice none 0 0, .slice none 0 0, .slice none 0 0, .slice none 0 0, .slice none 0 0, .bool b4, .int .u8 (kd : Int), .int .i64 f1, .int .i64 f2, .int .i64 t1, .int .i64 t2, .int .i64 0, .int .i64 0, .int .i64 a1, .int .i64 a2, .slice none 0 0, .slice none 0 0, .slice none 0 0, .slice none 0 0, .slice none 0 0, .bool b1, .int .u8 (kd : Int), .int .i64 f1, .int .i64 f2, .int .i64 t1, .int .i64 t2, .int .i64 0, .int .i64 0, .int .i64 a1, .int .i64 a2, .slice none 0 0, .slice none 0 0, .slice none 0 0, .slice none 0 0, .slice none 0 0, .bool b2, .int .u8 (kd : Int), .int .i64 f1, .int .i64 f2, .int .i64 t1, .int .i64 t2, .int .i64 0, .int .i64 0, .int .i64 a1, .int .i64 a2, .slice none 0 0, .slice none 0 0, .slice none 0 0, .slice none 0 0, .slice none 0 0, .bool b5, .int .u8 (kd : Int), .int .i64 f1, .int .i64 f2, .int .i64 t1, .int .i64 t2, .int .i64 0, .int .i64 0, .int .i64 a1, .int .i64 a2, .slice none 0 0, .slice none 0 0, .slice none 0 0, .slice none 0 0, .slice none 0 0, .bool b6, .int .u8 (kd : Int), .int .i64 f1, .int .i64 f2, .int .i64 t1, .int .i64 t2, .int .i64 0, .int .i64 0, .int .i64 a1, .int .i64 a2, .slice none 0 0, .slice none 0 0, .slice none 0 0, .slice none 0 0, .slice none 0 0, .bool b7, .int .u8 (kd : Int), .int .i64 f1, .int .i64 f2, .int .i64 t1, .int .i64 t2, .int .i64 0, .int .i64 0, .int .i64 a1, .int .i64 a2, .slice none 0 0, .slice none 0 0, .slice none 0 0, .slice none 0 0, .slice none 0 0, .bool false, .int .u8 (kd : Int), .int .i64 f1, .int .i64 f2, .int .i64 t1, .int .i64 t2, .int .i64 0, .int .i64 0, .int .i64 a1, .int .i64 a2, .slice none 0 0, .slice none 0 0, .slice none 0 0, .slice none 0 0, .slice none 0 0, .bool false, .int .u8 (kd : Int), .int .i64 f1, .int .i64 f2, .int .i64 t1, .int .i64 t2, .int .i64 0, .int .i64 0, .int .i64 a1, .int .i64 a2, .slice none 0 0, .slice none 0 0, .slice none 0 0, .slice none 0 0, .slice none 0 0, .bool false]) (by kernel_rfl) (hK _ _ ((Keep.refl _ _).alloc _) ⟨_, rfl, Blk.new _ _ _, hW.size⟩)
      go_simp
      generalize hZ : (Act.mk _ _) = Z
      refine hK Z ?_
      subst hZ
      clear hK K
      refine kAll_p (fun K hK => ?_)
      go_simp
      generalize hZ : (Act.mk _ _) = Z
      refine hK Z ?_
      subst hZ
      clear hK K
      refine kAll_nil (fun Y4 hW hF => ?_)
      obtain ⟨gw, rfl, hB, hlow⟩ := hF.1
      have HGW : W.heap.size ≤ gw := Nat.le_trans HKU.out.size hlow
      clear hlow
      replace HKU := Lib.hid (keep0_trans _ _ _ HKU.out hW)
      clear hF hW HXc HFc
      obtain ⟨A0, hA0⟩ : ∃ A : Array Value, #[.int .u8 (kd : Int), .int .i64 f1, .int .i64 f2, .int .i64 t1, .int .i64 t2, .int .i64 0, .int .i64 0, .int .i64 a1, .int .i64 a2, .slice none 0 0, .slice none 0 0, .slice none 0 0, .slice none 0 0, .slice none 0 0, .bool true, .int .u8 (kd : Int), .int .i64 f1, .int .i64 f2, .int .i64 t1, .int .i64 t2, .int .i64 0, .int .i64 0, .int .i64 a1, .int .i64 a2, .slice none 0 0, .slice none 0 0, .slice none 0 0, .slice none 0 0, .slice none 0 0, .bool b3, .int .u8 (kd : Int), .int .i64 f1, .int .i64 f2, .int .i64 t1, .int .i64 t2, .int .i64 0, .int .i64 0, .int .i64 a1, .int .i64 a2, .slice none 0 0, .slice none 0 0, .slice none 0 0, .slice none 0 0, .slice none 0 0, .bool b4, .int .u8 (kd : Int), .int .i64 f1, .int .i64 f2, .int .i64 t1, .int .i64 t2, .int .i64 0, .int .i64 0, .int .i64 a1, .int .i64 a2, .slice none 0 0, .slice none 0 0, .slice none 0 0, .slice none 0 0, .slice none 0 0, .bool b1, .int .u8 (kd : Int), .int .i64 f1, .int .i64 f2, .int .i64 t1, .int .i64 t2, .int .i64 0, .int .i64 0, .int .i64 a1, .int .i64 a2, .slice none 0 0, .slice none 0 0, .slice none 0 0, .slice none 0 0, .slice none 0 0, .bool b2, .int .u8 (kd : Int), .int .i64 f1, .int .i64 f2, .int .i64 t1, .int .i64 t2, .int .i64 0, .int .i64 0, .int .i64 a1, .int .i64 a2, .slice none 0 0, .slice none 0 0, .slice none 0 0, .slice none 0 0, .slice none 0 0, .bool b5, .int .u8 (kd : Int), .int .i64 f1, .int .i64 f2, .int .i64 t1, .int .i64 t2, .int .i64 0, .int .i64 0, .int .i64 a1, .int .i64 a2, .slice none 0 0, .slice none 0 0, .slice none 0 0, .slice none 0 0, .slice none 0 0, .bool b6, .int .u8 (kd : Int), .int .i64 f1, .int .i64 f2, .int .i64 t1, .int .i64 t2, .int .i64 0, .int .i64 0, .int .i64 a1, .int .i64 a2, .slice none 0 0, .slice none 0 0, .slice none 0 0, .slice none 0 0, .slice none 0 0, .bool b7, .int .u8 (kd : Int), .int .i64 f1, .int .i64 f2, .int .i64 t1, .int .i64 t2, .int .i64 0, .int .i64 0, .int .i64 a1, .int .i64 a2, .slice none 0 0, .slice none 0 0, .slice none 0 0, .slice none 0 0, .slice none 0 0, .bool false, .int .u8 (kd : Int), .int .i64 f1, .int .i64 f2, .int .i64 t1, .int .i64 t2, .int .i64 0, .int .i64 0, .int .i64 a1, .int .i64 a2, .slice none 0 0, .slice none 0 0, .slice none 0 0, .slice none 0 0, .slice none 0 0, .bool false, .int .u8 (kd : Int), .int .i64 f1, .int .i64 f2, .int .i64 t1, .int .i64 t2, .int .i64 0, .int .i64 0, .int .i64 a1, .int .i64 a2, .slice none 0 0, .slice none 0 0, .slice none 0 0, .slice none 0 0, .slice none 0 0, .bool false] = A := ⟨_, rfl⟩
      rw [hA0] at hB
      have N0 : A0.size = 165 := by rw [← hA0]; rfl
      have HWk := Lib.hid hB
      have HGw := Lib.hid (show W.heap.size ≤ gw from HGW)
      clear hB
      obtain ⟨x0, h0⟩ : ∃ x, A0[20]? = some x := ⟨_, Array.getElem?_eq_getElem (by omega)⟩
      have z0 : Y4.cell? ⟨gw, 20, none⟩ = some x0 := by rw [HWk.out.cell]; exact h0
      have y0 := HWk.out.frozen 20
      go_upto_region 23 with (fail)
      clear h0 z0 y0
      have h0 := (HKU.out.new (p := ⟨gw, 20, none⟩) HGw.out (.int .i64 1099511627776))
      have h1 := (HWk.out.set_ 20 (.int .i64 1099511627776))
      generalize Y4.setCell ⟨gw, 20, none⟩ (.int .i64 1099511627776) = Y5 at *
      obtain ⟨A1, hA1⟩ : ∃ A : Array Value, A0.setIfInBounds 20 (.int .i64 1099511627776) = A := ⟨_, rfl⟩
      rw [hA1] at h1
      have N1 : A1.size = 165 := by rw [← hA1]; simp only [Array.size_setIfInBounds]; exact N0
      replace HKU := Lib.hid h0
      replace HWk := Lib.hid h1
      clear h0 h1
      obtain ⟨x0, h0⟩ : ∃ x, A1[36]? = some x := ⟨_, Array.getElem?_eq_getElem (by omega)⟩
      have z0 : Y5.cell? ⟨gw, 36, none⟩ = some x0 := by rw [HWk.out.cell]; exact h0
      have y0 := HWk.out.frozen 36
      go_upto_region 24 with (fail)
      clear h0 z0 y0
      have h0 := (HKU.out.new (p := ⟨gw, 36, none⟩) HGw.out (.int .i64 9))
      have h1 := (HWk.out.set_ 36 (.int .i64 9))
      generalize Y5.setCell ⟨gw, 36, none⟩ (.int .i64 9) = Y6 at *
      obtain ⟨A2, hA2⟩ : ∃ A : Array Value, A1.setIfInBounds 36 (.int .i64 9) = A := ⟨_, rfl⟩
      rw [hA2] at h1
      have N2 : A2.size = 165 := by rw [← hA2]; simp only [Array.size_setIfInBounds]; exact N1
      replace HKU := Lib.hid h0
      replace HWk := Lib.hid h1
      clear h0 h1
      go_wp2_with fail
      refine (of_any 12 _).mono ?_
      rintro e Y7 ⟨rfl, hk2⟩
      replace HKU := Lib.hid (keep0_trans _ _ _ HKU.out hk2)
      replace HWk := Lib.hid (HWk.out.keep hk2 (fun h => h))
      clear hk2
      obtain ⟨x0, h0⟩ : ∃ x, A2[46]? = some x := ⟨_, Array.getElem?_eq_getElem (by omega)⟩
      have z0 : Y7.cell? ⟨gw, 46, none⟩ = some x0 := by rw [HWk.out.cell]; exact h0
      have y0 := HWk.out.frozen 46
      obtain ⟨x1, h1⟩ : ∃ x, A2[47]? = some x := ⟨_, Array.getElem?_eq_getElem (by omega)⟩
      have z1 : Y7.cell? ⟨gw, 47, none⟩ = some x1 := by rw [HWk.out.cell]; exact h1
      have y1 := HWk.out.frozen 47
      go_upto_region 25 with (fail)
      clear h0 z0 y0 h1 z1 y1
      have h0 := ((HKU.out.new (p := ⟨gw, 46, none⟩) HGw.out (.int .i64 12)).new (p := ⟨gw, 47, none⟩) HGw.out (.int .i64 1))
      have h1 := ((HWk.out.set_ 46 (.int .i64 12)).set_ 47 (.int .i64 1))
      generalize (Y7.setCell ⟨gw, 46, none⟩ (.int .i64 12)).setCell ⟨gw, 47, none⟩ (.int .i64 1) = Y8 at *
      obtain ⟨A3, hA3⟩ : ∃ A : Array Value, (A2.setIfInBounds 46 (.int .i64 12)).setIfInBounds 47 (.int .i64 1) = A := ⟨_, rfl⟩
      rw [hA3] at h1
      have N3 : A3.size = 165 := by rw [← hA3]; simp only [Array.size_setIfInBounds]; exact N2
      replace HKU := Lib.hid h0
      replace HWk := Lib.hid h1
      clear h0 h1
      go_wp2_with fail
      refine (of_any 12 _).mono ?_
      rintro e Y9 ⟨rfl, hk2⟩
      replace HKU := Lib.hid (keep0_trans _ _ _ HKU.out hk2)
      replace HWk := Lib.hid (HWk.out.keep hk2 (fun h => h))
      clear hk2
      obtain ⟨x0, h0⟩ : ∃ x, A3[63]? = some x := ⟨_, Array.getElem?_eq_getElem (by omega)⟩
      have z0 : Y9.cell? ⟨gw, 63, none⟩ = some x0 := by rw [HWk.out.cell]; exact h0
      have y0 := HWk.out.frozen 63
      obtain ⟨x1, h1⟩ : ∃ x, A3[64]? = some x := ⟨_, Array.getElem?_eq_getElem (by omega)⟩
      have z1 : Y9.cell? ⟨gw, 64, none⟩ = some x1 := by rw [HWk.out.cell]; exact h1
      have y1 := HWk.out.frozen 64
      go_upto_region 26 with (fail)
      clear h0 z0 y0 h1 z1 y1
      have h0 := ((HKU.out.new (p := ⟨gw, 63, none⟩) HGw.out (.int .i64 12)).new (p := ⟨gw, 64, none⟩) HGw.out (.int .i64 1))
      have h1 := ((HWk.out.set_ 63 (.int .i64 12)).set_ 64 (.int .i64 1))
      generalize (Y9.setCell ⟨gw, 63, none⟩ (.int .i64 12)).setCell ⟨gw, 64, none⟩ (.int .i64 1) = Y10 at *
      obtain ⟨A4, hA4⟩ : ∃ A : Array Value, (A3.setIfInBounds 63 (.int .i64 12)).setIfInBounds 64 (.int .i64 1) = A := ⟨_, rfl⟩
      rw [hA4] at h1
      have N4 : A4.size = 165 := by rw [← hA4]; simp only [Array.size_setIfInBounds]; exact N3
      replace HKU := Lib.hid h0
      replace HWk := Lib.hid h1
      clear h0 h1
      go_wp2_with fail
      refine (of_any 12 _).mono ?_
      rintro e Y11 ⟨rfl, hk2⟩
      replace HKU := Lib.hid (keep0_trans _ _ _ HKU.out hk2)
      replace HWk := Lib.hid (HWk.out.keep hk2 (fun h => h))
      clear hk2
      obtain ⟨x0, h0⟩ : ∃ x, A4[82]? = some x := ⟨_, Array.getElem?_eq_getElem (by omega)⟩
      have z0 : Y11.cell? ⟨gw, 82, none⟩ = some x0 := by rw [HWk.out.cell]; exact h0
      have y0 := HWk.out.frozen 82
      obtain ⟨x1, h1⟩ : ∃ x, A4[83]? = some x := ⟨_, Array.getElem?_eq_getElem (by omega)⟩
      have z1 : Y11.cell? ⟨gw, 83, none⟩ = some x1 := by rw [HWk.out.cell]; exact h1
      have y1 := HWk.out.frozen 83
      go_upto_region 27 with (fail)
      clear h0 z0 y0 h1 z1 y1
      have h0 := ((HKU.out.new (p := ⟨gw, 82, none⟩) HGw.out (.int .i64 12)).new (p := ⟨gw, 83, none⟩) HGw.out (.int .i64 1))
      have h1 := ((HWk.out.set_ 82 (.int .i64 12)).set_ 83 (.int .i64 1))
      generalize (Y11.setCell ⟨gw, 82, none⟩ (.int .i64 12)).setCell ⟨gw, 83, none⟩ (.int .i64 1) = Y12 at *
      obtain ⟨A5, hA5⟩ : ∃ A : Array Value, (A4.setIfInBounds 82 (.int .i64 12)).setIfInBounds 83 (.int .i64 1) = A := ⟨_, rfl⟩
      rw [hA5] at h1
      have N5 : A5.size = 165 := by rw [← hA5]; simp only [Array.size_setIfInBounds]; exact N4
      replace HKU := Lib.hid h0
      replace HWk := Lib.hid h1
      clear h0 h1
      have i0 := (HV.out.keep HKU.out (fun h => h)).cell 0
      have i1 := (HV.out.keep HKU.out (fun h => h)).cell 1
      have i2 := (HV.out.keep HKU.out (fun h => h)).cell 2
      have i3 := (HV.out.keep HKU.out (fun h => h)).cell 3
      have i4 := (HV.out.keep HKU.out (fun h => h)).cell 4
      simp at i0 i1 i2 i3 i4
      obtain ⟨x0, h0⟩ : ∃ x, A5[99]? = some x := ⟨_, Array.getElem?_eq_getElem (by omega)⟩
      have z0 : Y12.cell? ⟨gw, 99, none⟩ = some x0 := by rw [HWk.out.cell]; exact h0
      have y0 := HWk.out.frozen 99
      obtain ⟨x1, h1⟩ : ∃ x, A5[100]? = some x := ⟨_, Array.getElem?_eq_getElem (by omega)⟩
      have z1 : Y12.cell? ⟨gw, 100, none⟩ = some x1 := by rw [HWk.out.cell]; exact h1
      have y1 := HWk.out.frozen 100
      obtain ⟨x2, h2⟩ : ∃ x, A5[101]? = some x := ⟨_, Array.getElem?_eq_getElem (by omega)⟩
      have z2 : Y12.cell? ⟨gw, 101, none⟩ = some x2 := by rw [HWk.out.cell]; exact h2
      have y2 := HWk.out.frozen 101
      obtain ⟨x3, h3⟩ : ∃ x, A5[102]? = some x := ⟨_, Array.getElem?_eq_getElem (by omega)⟩
      have z3 : Y12.cell? ⟨gw, 102, none⟩ = some x3 := by rw [HWk.out.cell]; exact h3
      have y3 := HWk.out.frozen 102
      obtain ⟨x4, h4⟩ : ∃ x, A5[103]? = some x := ⟨_, Array.getElem?_eq_getElem (by omega)⟩
      have z4 : Y12.cell? ⟨gw, 103, none⟩ = some x4 := by rw [HWk.out.cell]; exact h4
      have y4 := HWk.out.frozen 103
      go_upto_region 28 with (fail)
      clear h0 z0 y0 h1 z1 y1 h2 z2 y2 h3 z3 y3 h4 z4 y4 i0 i1 i2 i3 i4
      have h0 := (((((HKU.out.new (p := ⟨gw, 99, none⟩) HGw.out (.slice none 0 0)).new (p := ⟨gw, 100, none⟩) HGw.out (.slice none 0 0)).new (p := ⟨gw, 101, none⟩) HGw.out (.slice none 0 0)).new (p := ⟨gw, 102, none⟩) HGw.out (.slice (some ⟨gC, 0, none⟩) 1 1)).new (p := ⟨gw, 103, none⟩) HGw.out (.slice (some ⟨gS, 0, none⟩) 1 1))
      have h1 := (((((HWk.out.set_ 99 (.slice none 0 0)).set_ 100 (.slice none 0 0)).set_ 101 (.slice none 0 0)).set_ 102 (.slice (some ⟨gC, 0, none⟩) 1 1)).set_ 103 (.slice (some ⟨gS, 0, none⟩) 1 1))
      generalize ((((Y12.setCell ⟨gw, 99, none⟩ (.slice none 0 0)).setCell ⟨gw, 100, none⟩ (.slice none 0 0)).setCell ⟨gw, 101, none⟩ (.slice none 0 0)).setCell ⟨gw, 102, none⟩ (.slice (some ⟨gC, 0, none⟩) 1 1)).setCell ⟨gw, 103, none⟩ (.slice (some ⟨gS, 0, none⟩) 1 1) = Y13 at *
      obtain ⟨A6, hA6⟩ : ∃ A : Array Value, ((((A5.setIfInBounds 99 (.slice none 0 0)).setIfInBounds 100 (.slice none 0 0)).setIfInBounds 101 (.slice none 0 0)).setIfInBounds 102 (.slice (some ⟨gC, 0, none⟩) 1 1)).setIfInBounds 103 (.slice (some ⟨gS, 0, none⟩) 1 1) = A := ⟨_, rfl⟩
      rw [hA6] at h1
      have N6 : A6.size = 165 := by rw [← hA6]; simp only [Array.size_setIfInBounds]; exact N5
      replace HKU := Lib.hid h0
      replace HWk := Lib.hid h1
      clear h0 h1
      have i0 := (HA.out.keep HKU.out (fun h => h)).cell 0
      have i1 := (HA.out.keep HKU.out (fun h => h)).cell 1
      have i2 := (HA.out.keep HKU.out (fun h => h)).cell 2
      have i3 := (HA.out.keep HKU.out (fun h => h)).cell 3
      have i4 := (HA.out.keep HKU.out (fun h => h)).cell 4
      simp at i0 i1 i2 i3 i4
      obtain ⟨x0, h0⟩ : ∃ x, A6[114]? = some x := ⟨_, Array.getElem?_eq_getElem (by omega)⟩
      have z0 : Y13.cell? ⟨gw, 114, none⟩ = some x0 := by rw [HWk.out.cell]; exact h0
      have y0 := HWk.out.frozen 114
      obtain ⟨x1, h1⟩ : ∃ x, A6[115]? = some x := ⟨_, Array.getElem?_eq_getElem (by omega)⟩
      have z1 : Y13.cell? ⟨gw, 115, none⟩ = some x1 := by rw [HWk.out.cell]; exact h1
      have y1 := HWk.out.frozen 115
      obtain ⟨x2, h2⟩ : ∃ x, A6[116]? = some x := ⟨_, Array.getElem?_eq_getElem (by omega)⟩
      have z2 : Y13.cell? ⟨gw, 116, none⟩ = some x2 := by rw [HWk.out.cell]; exact h2
      have y2 := HWk.out.frozen 116
      obtain ⟨x3, h3⟩ : ∃ x, A6[117]? = some x := ⟨_, Array.getElem?_eq_getElem (by omega)⟩
      have z3 : Y13.cell? ⟨gw, 117, none⟩ = some x3 := by rw [HWk.out.cell]; exact h3
      have y3 := HWk.out.frozen 117
      obtain ⟨x4, h4⟩ : ∃ x, A6[118]? = some x := ⟨_, Array.getElem?_eq_getElem (by omega)⟩
      have z4 : Y13.cell? ⟨gw, 118, none⟩ = some x4 := by rw [HWk.out.cell]; exact h4
      have y4 := HWk.out.frozen 118
      go_upto_region 29 with (fail)
      clear h0 z0 y0 h1 z1 y1 h2 z2 y2 h3 z3 y3 h4 z4 y4 i0 i1 i2 i3 i4
      have h0 := (((((HKU.out.new (p := ⟨gw, 114, none⟩) HGw.out (.slice (some ⟨gM, 0, none⟩) 2 2)).new (p := ⟨gw, 115, none⟩) HGw.out (.slice (some ⟨gF, 0, none⟩) 2 2)).new (p := ⟨gw, 116, none⟩) HGw.out (.slice (some ⟨gR, 0, none⟩) 2 2)).new (p := ⟨gw, 117, none⟩) HGw.out (.slice (some ⟨gC, 0, none⟩) 1 1)).new (p := ⟨gw, 118, none⟩) HGw.out (.slice (some ⟨gS, 0, none⟩) 1 1))
      have h1 := (((((HWk.out.set_ 114 (.slice (some ⟨gM, 0, none⟩) 2 2)).set_ 115 (.slice (some ⟨gF, 0, none⟩) 2 2)).set_ 116 (.slice (some ⟨gR, 0, none⟩) 2 2)).set_ 117 (.slice (some ⟨gC, 0, none⟩) 1 1)).set_ 118 (.slice (some ⟨gS, 0, none⟩) 1 1))
      generalize ((((Y13.setCell ⟨gw, 114, none⟩ (.slice (some ⟨gM, 0, none⟩) 2 2)).setCell ⟨gw, 115, none⟩ (.slice (some ⟨gF, 0, none⟩) 2 2)).setCell ⟨gw, 116, none⟩ (.slice (some ⟨gR, 0, none⟩) 2 2)).setCell ⟨gw, 117, none⟩ (.slice (some ⟨gC, 0, none⟩) 1 1)).setCell ⟨gw, 118, none⟩ (.slice (some ⟨gS, 0, none⟩) 1 1) = Y14 at *
      obtain ⟨A7, hA7⟩ : ∃ A : Array Value, ((((A6.setIfInBounds 114 (.slice (some ⟨gM, 0, none⟩) 2 2)).setIfInBounds 115 (.slice (some ⟨gF, 0, none⟩) 2 2)).setIfInBounds 116 (.slice (some ⟨gR, 0, none⟩) 2 2)).setIfInBounds 117 (.slice (some ⟨gC, 0, none⟩) 1 1)).setIfInBounds 118 (.slice (some ⟨gS, 0, none⟩) 1 1) = A := ⟨_, rfl⟩
      rw [hA7] at h1
      have N7 : A7.size = 165 := by rw [← hA7]; simp only [Array.size_setIfInBounds]; exact N6
      replace HKU := Lib.hid h0
      replace HWk := Lib.hid h1
      clear h0 h1
      obtain ⟨x0, h0⟩ : ∃ x, A7[125]? = some x := ⟨_, Array.getElem?_eq_getElem (by omega)⟩
      have z0 : Y14.cell? ⟨gw, 125, none⟩ = some x0 := by rw [HWk.out.cell]; exact h0
      have y0 := HWk.out.frozen 125
      go_upto_region 30 with (fail)
      clear h0 z0 y0
      have h0 := (HKU.out.new (p := ⟨gw, 125, none⟩) HGw.out (.int .i64 1099511627777))
      have h1 := (HWk.out.set_ 125 (.int .i64 1099511627777))
      generalize Y14.setCell ⟨gw, 125, none⟩ (.int .i64 1099511627777) = Y15 at *
      obtain ⟨A8, hA8⟩ : ∃ A : Array Value, A7.setIfInBounds 125 (.int .i64 1099511627777) = A := ⟨_, rfl⟩
      rw [hA8] at h1
      have N8 : A8.size = 165 := by rw [← hA8]; simp only [Array.size_setIfInBounds]; exact N7
      replace HKU := Lib.hid h0
      replace HWk := Lib.hid h1
      clear h0 h1
      obtain ⟨x0, h0⟩ : ∃ x, A8[141]? = some x := ⟨_, Array.getElem?_eq_getElem (by omega)⟩
      have z0 : Y15.cell? ⟨gw, 141, none⟩ = some x0 := by rw [HWk.out.cell]; exact h0
      have y0 := HWk.out.frozen 141
      go_upto_region 31 with (fail)
      clear h0 z0 y0
      have h0 := (HKU.out.new (p := ⟨gw, 141, none⟩) HGw.out (.int .i64 (-1)))
      have h1 := (HWk.out.set_ 141 (.int .i64 (-1)))
      generalize Y15.setCell ⟨gw, 141, none⟩ (.int .i64 (-1)) = Y16 at *
      obtain ⟨A9, hA9⟩ : ∃ A : Array Value, A8.setIfInBounds 141 (.int .i64 (-1)) = A := ⟨_, rfl⟩
      rw [hA9] at h1
      have N9 : A9.size = 165 := by rw [← hA9]; simp only [Array.size_setIfInBounds]; exact N8
      replace HKU := Lib.hid h0
      replace HWk := Lib.hid h1
      clear h0 h1
      go_wp2_with fail
      refine (of_any 2 _).mono ?_
      rintro e Y17 ⟨rfl, hk2⟩
      replace HKU := Lib.hid (keep0_trans _ _ _ HKU.out hk2)
      replace HWk := Lib.hid (HWk.out.keep hk2 (fun h => h))
      clear hk2
      go_wp2_with fail
      refine (of_any 1 _).mono ?_
      rintro e Y18 ⟨rfl, hk2⟩
      replace HKU := Lib.hid (keep0_trans _ _ _ HKU.out hk2)
      replace HWk := Lib.hid (HWk.out.keep hk2 (fun h => h))
      clear hk2
      obtain ⟨Y19, hY⟩ : ∃ V, Y18.alloc (.cells #[.int .i64 2, .int .i64 1, .int .i64 1, .int .i64 1] 24) = V := ⟨_, rfl⟩
      have hk2 : Keep (fun _ => False) Y18 Y19 := by rw [← hY]; exact (Keep.refl _ _).alloc _
      have hz : Blk Y19 Y18.heap.size 24 #[.int .i64 2, .int .i64 1, .int .i64 1, .int .i64 1] := by rw [← hY]; exact Blk.new _ _ _
      replace HKU := Lib.hid (keep0_trans _ _ _ HKU.out hk2)
      replace HWk := Lib.hid (HWk.out.keep hk2 (fun h => h))
      have HZz := Lib.hid hz
      have NZ := Lib.hid (show ¬ Y18.heap.size = gw from fun e => (hz.ne_ HWk.out (by decide)) e)
      clear hk2 hz
      obtain ⟨x0, h0⟩ : ∃ x, A9[163]? = some x := ⟨_, Array.getElem?_eq_getElem (by omega)⟩
      have z0 : Y19.cell? ⟨gw, 163, none⟩ = some x0 := by rw [HWk.out.cell]; exact h0
      have y0 := HWk.out.frozen 163
      go_upto_region 32 with (fail)
      clear h0 z0 y0
      have h0 := (HKU.out.new (p := ⟨gw, 163, none⟩) HGw.out (.slice (some ⟨Y18.heap.size, 0, none⟩) 2 2))
      have h1 := (HWk.out.set_ 163 (.slice (some ⟨Y18.heap.size, 0, none⟩) 2 2))
      have h2 := (HZz.out.far (p := ⟨gw, 163, none⟩) NZ.out (.slice (some ⟨Y18.heap.size, 0, none⟩) 2 2))
      generalize Y19.setCell ⟨gw, 163, none⟩ (.slice (some ⟨Y18.heap.size, 0, none⟩) 2 2) = Y20 at *
      obtain ⟨A10, hA10⟩ : ∃ A : Array Value, A9.setIfInBounds 163 (.slice (some ⟨Y18.heap.size, 0, none⟩) 2 2) = A := ⟨_, rfl⟩
      rw [hA10] at h1
      have N10 : A10.size = 165 := by rw [← hA10]; simp only [Array.size_setIfInBounds]; exact N9
      replace HKU := Lib.hid h0
      replace HWk := Lib.hid h1
      replace HZz := Lib.hid h2
      clear h2
      generalize Y18.heap.size = gz at *
      clear h0 h1
      have HFin : Hid (Blk Y20 gw 43 #[.int .u8 (kd : Int), .int .i64 f1, .int .i64 f2, .int .i64 t1, .int .i64 t2, .int .i64 0, .int .i64 0, .int .i64 a1, .int .i64 a2, .slice none 0 0, .slice none 0 0, .slice none 0 0, .slice none 0 0, .slice none 0 0, .bool true, .int .u8 (kd : Int), .int .i64 f1, .int .i64 f2, .int .i64 t1, .int .i64 t2, .int .i64 1099511627776, .int .i64 0, .int .i64 a1, .int .i64 a2, .slice none 0 0, .slice none 0 0, .slice none 0 0, .slice none 0 0, .slice none 0 0, .bool b3, .int .u8 (kd : Int), .int .i64 f1, .int .i64 f2, .int .i64 t1, .int .i64 t2, .int .i64 0, .int .i64 9, .int .i64 a1, .int .i64 a2, .slice none 0 0, .slice none 0 0, .slice none 0 0, .slice none 0 0, .slice none 0 0, .bool b4, .int .u8 (kd : Int), .int .i64 12, .int .i64 1, .int .i64 t1, .int .i64 t2, .int .i64 0, .int .i64 0, .int .i64 a1, .int .i64 a2, .slice none 0 0, .slice none 0 0, .slice none 0 0, .slice none 0 0, .slice none 0 0, .bool b1, .int .u8 (kd : Int), .int .i64 f1, .int .i64 f2, .int .i64 12, .int .i64 1, .int .i64 0, .int .i64 0, .int .i64 a1, .int .i64 a2, .slice none 0 0, .slice none 0 0, .slice none 0 0, .slice none 0 0, .slice none 0 0, .bool b2, .int .u8 (kd : Int), .int .i64 f1, .int .i64 f2, .int .i64 t1, .int .i64 t2, .int .i64 0, .int .i64 0, .int .i64 12, .int .i64 1, .slice none 0 0, .slice none 0 0, .slice none 0 0, .slice none 0 0, .slice none 0 0, .bool b5, .int .u8 (kd : Int), .int .i64 f1, .int .i64 f2, .int .i64 t1, .int .i64 t2, .int .i64 0, .int .i64 0, .int .i64 a1, .int .i64 a2, .slice none 0 0, .slice none 0 0, .slice none 0 0, .slice (some ⟨gC, 0, none⟩) 1 1, .slice (some ⟨gS, 0, none⟩) 1 1, .bool b6, .int .u8 (kd : Int), .int .i64 f1, .int .i64 f2, .int .i64 t1, .int .i64 t2, .int .i64 0, .int .i64 0, .int .i64 a1, .int .i64 a2, .slice (some ⟨gM, 0, none⟩) 2 2, .slice (some ⟨gF, 0, none⟩) 2 2, .slice (some ⟨gR, 0, none⟩) 2 2, .slice (some ⟨gC, 0, none⟩) 1 1, .slice (some ⟨gS, 0, none⟩) 1 1, .bool b7, .int .u8 (kd : Int), .int .i64 f1, .int .i64 f2, .int .i64 t1, .int .i64 t2, .int .i64 1099511627777, .int .i64 0, .int .i64 a1, .int .i64 a2, .slice none 0 0, .slice none 0 0, .slice none 0 0, .slice none 0 0, .slice none 0 0, .bool false, .int .u8 (kd : Int), .int .i64 f1, .int .i64 f2, .int .i64 t1, .int .i64 t2, .int .i64 0, .int .i64 (-1), .int .i64 a1, .int .i64 a2, .slice none 0 0, .slice none 0 0, .slice none 0 0, .slice none 0 0, .slice none 0 0, .bool false, .int .u8 (kd : Int), .int .i64 f1, .int .i64 f2, .int .i64 t1, .int .i64 t2, .int .i64 0, .int .i64 0, .int .i64 a1, .int .i64 a2, .slice none 0 0, .slice none 0 0, .slice none 0 0, .slice none 0 0, .slice (some ⟨gz, 0, none⟩) 2 2, .bool false]) := Lib.hid (by
        have e : A10 = #[.int .u8 (kd : Int), .int .i64 f1, .int .i64 f2, .int .i64 t1, .int .i64 t2, .int .i64 0, .int .i64 0, .int .i64 a1, .int .i64 a2, .slice none 0 0, .slice none 0 0, .slice none 0 0, .slice none 0 0, .slice none 0 0, .bool true, .int .u8 (kd : Int), .int .i64 f1, .int .i64 f2, .int .i64 t1, .int .i64 t2, .int .i64 1099511627776, .int .i64 0, .int .i64 a1, .int .i64 a2, .slice none 0 0, .slice none 0 0, .slice none 0 0, .slice none 0 0, .slice none 0 0, .bool b3, .int .u8 (kd : Int), .int .i64 f1, .int .i64 f2, .int .i64 t1, .int .i64 t2, .int .i64 0, .int .i64 9, .int .i64 a1, .int .i64 a2, .slice none 0 0, .slice none 0 0, .slice none 0 0, .slice none 0 0, .slice none 0 0, .bool b4, .int .u8 (kd : Int), .int .i64 12, .int .i64 1, .int .i64 t1, .int .i64 t2, .int .i64 0, .int .i64 0, .int .i64 a1, .int .i64 a2, .slice none 0 0, .slice none 0 0, .slice none 0 0, .slice none 0 0, .slice none 0 0, .bool b1, .int .u8 (kd : Int), .int .i64 f1, .int .i64 f2, .int .i64 12, .int .i64 1, .int .i64 0, .int .i64 0, .int .i64 a1, .int .i64 a2, .slice none 0 0, .slice none 0 0, .slice none 0 0, .slice none 0 0, .slice none 0 0, .bool b2, .int .u8 (kd : Int), .int .i64 f1, .int .i64 f2, .int .i64 t1, .int .i64 t2, .int .i64 0, .int .i64 0, .int .i64 12, .int .i64 1, .slice none 0 0, .slice none 0 0, .slice none 0 0, .slice none 0 0, .slice none 0 0, .bool b5, .int .u8 (kd : Int), .int .i64 f1, .int .i64 f2, .int .i64 t1, .int .i64 t2, .int .i64 0, .int .i64 0, .int .i64 a1, .int .i64 a2, .slice none 0 0, .slice none 0 0, .slice none 0 0, .slice (some ⟨gC, 0, none⟩) 1 1, .slice (some ⟨gS, 0, none⟩) 1 1, .bool b6, .int .u8 (kd : Int), .int .i64 f1, .int .i64 f2, .int .i64 t1, .int .i64 t2, .int .i64 0, .int .i64 0, .int .i64 a1, .int .i64 a2, .slice (some ⟨gM, 0, none⟩) 2 2, .slice (some ⟨gF, 0, none⟩) 2 2, .slice (some ⟨gR, 0, none⟩) 2 2, .slice (some ⟨gC, 0, none⟩) 1 1, .slice (some ⟨gS, 0, none⟩) 1 1, .bool b7, .int .u8 (kd : Int), .int .i64 f1, .int .i64 f2, .int .i64 t1, .int .i64 t2, .int .i64 1099511627777, .int .i64 0, .int .i64 a1, .int .i64 a2, .slice none 0 0, .slice none 0 0, .slice none 0 0, .slice none 0 0, .slice none 0 0, .bool false, .int .u8 (kd : Int), .int .i64 f1, .int .i64 f2, .int .i64 t1, .int .i64 t2, .int .i64 0, .int .i64 (-1), .int .i64 a1, .int .i64 a2, .slice none 0 0, .slice none 0 0, .slice none 0 0, .slice none 0 0, .slice none 0 0, .bool false, .int .u8 (kd : Int), .int .i64 f1, .int .i64 f2, .int .i64 t1, .int .i64 t2, .int .i64 0, .int .i64 0, .int .i64 a1, .int .i64 a2, .slice none 0 0, .slice none 0 0, .slice none 0 0, .slice none 0 0, .slice (some ⟨gz, 0, none⟩) 2 2, .bool false] := by subst hA0 hA1 hA2 hA3 hA4 hA5 hA6 hA7 hA8 hA9 hA10; kernel_rfl
        have h := HWk.out
        rwa [e] at h)
      clear HWk N0 N1 N2 N3 N4 N5 N6 N7 N8 N9 N10
      clear hA10 hA9 hA8 hA7 hA6 hA5 hA4 hA3 hA2 hA1 hA0
      have HVY := Lib.hid (HVv.out.keep0 HKU.out)
      have HAY := Lib.hid (HVa.out.keep0 HKU.out)
      have HIs : ∀ i, isB k i = isBv b1 b2 b3 b4 b5 b6 b7 i := fun i => by
        unfold isB isBv
        rw [← HB1.out, ← HB2.out, ← HB3.out, ← HB4.out, ← HB5.out, ← HB6.out, E6.out, E7.out]
      have HIS := Lib.hid HIs
      have HLT := Lib.hid hlt
      clear HIs HB1 HB2 HB3 HB4 HB5 HB6 E6 E7 HVr HAr HIr HOr VVr VAr KKr
      go_wp2_with fail
      go_loopw [9] (fun iv wr => ∃ i : Nat, i ≤ 11 ∧ iv = .int .i64 (i : Int) ∧ Hid (Keep (fun _ => False) Y20 wr)) (fun iv _ => 11 - (intOf iv).toNat)
      case atStart => exact ⟨0, by omega, rfl, Lib.hid (Keep.refl _ _)⟩
      case round =>
       as_aux_lemma =>
        obtain ⟨i, hi, rfl, KI⟩ := hrel
        have e2 : IntKind.i64.wrap ((i : Int) + 1) = (i : Int) + 1 := IntWalk.i64_in _ (by omega)
        by_cases hl2 : i < 11
        · have q3 : (i : Int) < 11 := by omega
          have q4 : (0 : Int) ≤ (i : Int) := by omega
          have HRW := Lib.hid (fun W2 (h : Keep (fun _ => False) wr W2) => with_rows (w := W2) kd f1 f2 t1 t2 a1 a2 b1 b2 b3 b4 b5 b6 b7 ((HFin.out.keep KI.out (fun h => h)).keep h (fun h => h)) ((HVY.out.keep0 KI.out).keep0 h) ((HAY.out.keep0 KI.out).keep0 h) ((HZz.out.keep KI.out (fun h => h)).keep h (fun h => h)) hl2)
          have hm := with_may HLT.out hl2
          have he := with_enc HLT.out hl2
          have hfew := with_few k i hl2
          rw [HM0.out] at hm he hfew
          rw [HIS.out] at hm he
          have hkd : (withF ⟨kd, (f1, f2), (t1, t2), 0, 0, (a1, a2), emptyVw⟩ i).kind < 256 := by rw [← HM0.out, with_kind k i hl2]; have := HLT.out; omega
          generalize withF ⟨kd, (f1, f2), (t1, t2), 0, 0, (a1, a2), emptyVw⟩ i = fi at *
          generalize isBv b1 b2 b3 b4 b5 b6 b7 i = bi at *
          generalize sl5 gC gS gM gF gR gz i = sv at *
          obtain ⟨m, l, r, c, s⟩ := sv
          obtain ⟨⟨t, er⟩, hE⟩ : ∃ e, encM fi = e := ⟨_, rfl⟩
          rw [hE] at he
          simp only at he HRW
          have HMi := Lib.hid hm
          have HE := Lib.hid hE
          have HEr := Lib.hid he
          have HFew := Lib.hid hfew
          have HK9 := Lib.hid hkd
          clear hm he hfew hkd hE HFin HVY HAY HZz
          have HR0 := Lib.hid (HRW.out wr (Keep.refl _ _))
          have HL := Lib.hid (fun j v (h : (cFr fi m l r c s)[j]? = some v) => HR0.out.1 j v (pre15 h))
          go_upto_region 35 with (fail)
          go_wp2_with (first | (refine wpList_load_at rfl 39 _ rfl gw (i * 15) rfl (cFr fi m l r c s) _ HL.out Tryz.underlying39 rfl size39 ?_) | fail)
          refine (encode_any fi m l r c s _ HK9.out HR0.out.2 HFew.out).mono ?_
          rintro e Z1 ⟨rfl, hk2⟩
          rw [HE.out]
          unfold pairV
          have KZ := Lib.hid hk2
          clear hk2 HL HR0
          replace HRW := Lib.hid (fun W2 (h : Keep (fun _ => False) Z1 W2) => HRW.out W2 (keep0_trans _ _ _ KZ.out h))
          have KZZ := Lib.hid (keep0_trans _ _ _ (keep0_trans _ _ _ HKU.out KI.out) KZ.out)
          go_upto_region 36 with (fail)
          cases bi
          · obtain rfl : er = 4 := HEr.out
            refine wp_region_krip (Keep (fun _ => False)) (Keep.refl _) keep0_trans 38 (by kernel_rfl) (by kernel_rfl) (Ts := [none, none, none, none, some (.inl (.agg #[.int .u8 (fi.kind : Int), .int .i64 fi.frm.1, .int .i64 fi.frm.2, .int .i64 fi.to.1, .int .i64 fi.to.2, .int .i64 fi.n, .int .i64 fi.tok, .int .i64 fi.abt.1, .int .i64 fi.abt.2, m, l, r, c, s])), some (.inl (.bool false)), none, none, none, none, some (.inl (.bool false)), none, none, none, none, none, none, none, none, some (.inl (.bool false)), none, none, none, none, none, none, none, some (.inl (.bool false)), none, none, none, none, none, none, none, none, none, none]) ?_
            simp only [List.take, List.drop]
            refine kAll_p (fun K hK => ?_)
            go_simp
            generalize hZ : (Act.mk _ _) = Z
            refine hK Z ?_
            subst hZ
            clear hK K
            refine kAll_p (fun K hK => ?_)
            go_simp
            generalize hZ : (Act.mk _ _) = Z
            refine hK Z ?_
            subst hZ
            clear hK K
            refine kAll_p (fun K hK => ?_)
            go_simp
            generalize hZ : (Act.mk _ _) = Z
            refine hK Z ?_
            subst hZ
            clear hK K
            refine kAll_p (fun K hK => ?_)
            go_simp
            generalize hZ : (Act.mk _ _) = Z
            refine hK Z ?_
            subst hZ
            clear hK K
            refine kAll_dn _ (fun W hW hF => kStep_of fun K Q hK => ?_) (fun K hK => ?_)
            · exact wp_load_at 39 _ rfl gw (i * 15) rfl (cFr fi m l r c s) _ (fun j v h => (HRW.out W (keepD (Keep.refl _ _) hW)).1 j v (pre15 h)) Tryz.underlying39 rfl size39 (hK _ _ (Keep.refl _ _) rfl)
            go_simp
            generalize hZ : (Act.mk _ _) = Z
            refine hK Z ?_
            subst hZ
            clear hK K
            refine kAll_dn _ (fun W hW hF => kStep_of fun K Q hK => ?_) (fun K hK => ?_)
            · go_simp
              refine (may_is fi false HMi.out m l r c s W HK9.out ((HRW.out W (keepD (Keep.refl _ _) hW)).2) HFew.out).mono ?_
              rintro e w' ⟨rfl, hk⟩
              exact hK _ _ hk rfl
            go_simp
            generalize hZ : (Act.mk _ _) = Z
            refine hK Z ?_
            subst hZ
            clear hK K
            refine kAll_p (fun K hK => ?_)
            go_simp
            generalize hZ : (Act.mk _ _) = Z
            refine hK Z ?_
            subst hZ
            clear hK K
            refine kAll_p (fun K hK => ?_)
            go_simp
            generalize hZ : (Act.mk _ _) = Z
            refine hK Z ?_
            subst hZ
            clear hK K
            refine kAll_p (fun K hK => ?_)
            go_simp
            generalize hZ : (Act.mk _ _) = Z
            refine hK Z ?_
            subst hZ
            clear hK K
            refine kAll_p (fun K hK => ?_)
            go_simp
            generalize hZ : (Act.mk _ _) = Z
            refine hK Z ?_
            subst hZ
            clear hK K
            refine kAll_dn _ (fun W hW hF => kStep_of fun K Q hK => ?_) (fun K hK => ?_)
            · have c0 := (HRW.out W (keepD (Keep.refl _ _) hW)).1 14 _ rfl
              go_simp
              exact hK _ _ (Keep.refl _ _) rfl
            go_simp
            generalize hZ : (Act.mk _ _) = Z
            refine hK Z ?_
            subst hZ
            clear hK K
            refine kAll_p (fun K hK => ?_)
            go_simp
            generalize hZ : (Act.mk _ _) = Z
            refine hK Z ?_
            subst hZ
            clear hK K
            refine kAll_p (fun K hK => ?_)
            go_simp
            generalize hZ : (Act.mk _ _) = Z
            refine hK Z ?_
            subst hZ
            clear hK K
            refine kAll_pw (by kernel_rfl) (fun K hK => ?_)
            go_simp
            generalize hZ : (Act.mk _ _) = Z
            refine hK Z ?_
            subst hZ
            clear hK K
            refine kAll_pw (by kernel_rfl) (fun K hK => ?_)
            go_simp
            generalize hZ : (Act.mk _ _) = Z
            refine hK Z ?_
            subst hZ
            clear hK K
            refine kAll_pw (by kernel_rfl) (fun K hK => ?_)
            go_simp
            generalize hZ : (Act.mk _ _) = Z
            refine hK Z ?_
            subst hZ
            clear hK K
            refine kAll_pw (by kernel_rfl) (fun K hK => ?_)
            go_simp
            generalize hZ : (Act.mk _ _) = Z
            refine hK Z ?_
            subst hZ
            clear hK K
            refine kAll_pw (by kernel_rfl) (fun K hK => ?_)
            go_simp
            generalize hZ : (Act.mk _ _) = Z
            refine hK Z ?_
            subst hZ
            clear hK K
            refine kAll_pw (by kernel_rfl) (fun K hK => ?_)
            go_simp
            generalize hZ : (Act.mk _ _) = Z
            refine hK Z ?_
            subst hZ
            clear hK K
            refine kAll_dn _ (fun W hW hF => kStep_w (by kernel_rfl) fun K Q hK => ?_) (fun K hK => ?_)
            · have c0 := (HRW.out W (keepD (Keep.refl _ _) hW)).1 14 _ rfl
              go_simp
              exact hK _ _ (Keep.refl _ _) rfl
            go_simp
            generalize hZ : (Act.mk _ _) = Z
            refine hK Z ?_
            subst hZ
            clear hK K
            refine kAll_pw (by kernel_rfl) (fun K hK => ?_)
            go_simp
            generalize hZ : (Act.mk _ _) = Z
            refine hK Z ?_
            subst hZ
            clear hK K
            refine kAll_p (fun K hK => ?_)
            go_simp
            generalize hZ : (Act.mk _ _) = Z
            refine hK Z ?_
            subst hZ
            clear hK K
            refine kAll_p (fun K hK => ?_)
            go_simp
            generalize hZ : (Act.mk _ _) = Z
            refine hK Z ?_
            subst hZ
            clear hK K
            refine kAll_pw (by kernel_rfl) (fun K hK => ?_)
            go_simp
            generalize hZ : (Act.mk _ _) = Z
            refine hK Z ?_
            subst hZ
            clear hK K
            refine kAll_pw (by kernel_rfl) (fun K hK => ?_)
            go_simp
            generalize hZ : (Act.mk _ _) = Z
            refine hK Z ?_
            subst hZ
            clear hK K
            refine kAll_pw (by kernel_rfl) (fun K hK => ?_)
            go_simp
            generalize hZ : (Act.mk _ _) = Z
            refine hK Z ?_
            subst hZ
            clear hK K
            refine kAll_pw (by kernel_rfl) (fun K hK => ?_)
            go_simp
            generalize hZ : (Act.mk _ _) = Z
            refine hK Z ?_
            subst hZ
            clear hK K
            refine kAll_dn _ (fun W hW hF => kStep_w (by kernel_rfl) fun K Q hK => ?_) (fun K hK => ?_)
            · have c0 := (HRW.out W (keepD (Keep.refl _ _) hW)).1 14 _ rfl
              go_simp
              exact hK _ _ (Keep.refl _ _) rfl
            go_simp
            generalize hZ : (Act.mk _ _) = Z
            refine hK Z ?_
            subst hZ
            clear hK K
            refine kAll_pw (by kernel_rfl) (fun K hK => ?_)
            go_simp
            generalize hZ : (Act.mk _ _) = Z
            refine hK Z ?_
            subst hZ
            clear hK K
            refine kAll_skipn (by kernel_rfl) (fun K hK => ?_)
            go_simp
            generalize hZ : (Act.mk _ _) = Z
            refine hK Z ?_
            subst hZ
            clear hK K
            refine kAll_skipn (by kernel_rfl) (fun K hK => ?_)
            go_simp
            generalize hZ : (Act.mk _ _) = Z
            refine hK Z ?_
            subst hZ
            clear hK K
            refine kAll_skipn (by kernel_rfl) (fun K hK => ?_)
            go_simp
            generalize hZ : (Act.mk _ _) = Z
            refine hK Z ?_
            subst hZ
            clear hK K
            refine kAll_skipn (by kernel_rfl) (fun K hK => ?_)
            go_simp
            generalize hZ : (Act.mk _ _) = Z
            refine hK Z ?_
            subst hZ
            clear hK K
            refine kAll_skipn (by kernel_rfl) (fun K hK => ?_)
            go_simp
            generalize hZ : (Act.mk _ _) = Z
            refine hK Z ?_
            subst hZ
            clear hK K
            refine kAll_skipn (by kernel_rfl) (fun K hK => ?_)
            go_simp
            generalize hZ : (Act.mk _ _) = Z
            refine hK Z ?_
            subst hZ
            clear hK K
            refine kAll_skipn (by kernel_rfl) (fun K hK => ?_)
            go_simp
            generalize hZ : (Act.mk _ _) = Z
            refine hK Z ?_
            subst hZ
            clear hK K
            refine kAll_pw (by kernel_rfl) (fun K hK => ?_)
            go_simp
            generalize hZ : (Act.mk _ _) = Z
            refine hK Z ?_
            subst hZ
            clear hK K
            refine kAll_p (fun K hK => ?_)
            go_simp
            generalize hZ : (Act.mk _ _) = Z
            refine hK Z ?_
            subst hZ
            clear hK K
            refine kAll_nil (fun Z2 hW hF => ?_)
            clear hF
            have KZ2 := Lib.hid (keep0_trans _ _ _ KI.out (keep0_trans _ _ _ KZ.out (keepD (Keep.refl _ _) hW)))
            clear hW
            go_wp2
            go_roundw
            case rel => exact ⟨i + 1, by omega, by go_num, KZ2⟩
            case measure => simp [intOf]; omega
          · obtain rfl : er = 0 := HEr.out
            refine wp_region_krip (Keep (fun _ => False)) (Keep.refl _) keep0_trans 38 (by kernel_rfl) (by kernel_rfl) (Ts := [none, none, none, none, some (.inl (.agg #[.int .u8 (fi.kind : Int), .int .i64 fi.frm.1, .int .i64 fi.frm.2, .int .i64 fi.to.1, .int .i64 fi.to.2, .int .i64 fi.n, .int .i64 fi.tok, .int .i64 fi.abt.1, .int .i64 fi.abt.2, m, l, r, c, s])), some (.inl (.bool true)), none, none, none, none, some (.inl (.bool true)), none, none, none, none, none, none, none, none, some (.inl (.bool true)), none, none, none, none, none, none, none, some (.inl (.bool true)), none, none, none, none, none, some (.inl (.agg #[.int .u8 (fi.kind : Int), .int .i64 fi.frm.1, .int .i64 fi.frm.2, .int .i64 fi.to.1, .int .i64 fi.to.2, .int .i64 fi.n, .int .i64 fi.tok, .int .i64 fi.abt.1, .int .i64 fi.abt.2, m, l, r, c, s])), some (.inl (.bool true)), none, none, none]) ?_
            simp only [List.take, List.drop]
            refine kAll_p (fun K hK => ?_)
            go_simp
            generalize hZ : (Act.mk _ _) = Z
            refine hK Z ?_
            subst hZ
            clear hK K
            refine kAll_p (fun K hK => ?_)
            go_simp
            generalize hZ : (Act.mk _ _) = Z
            refine hK Z ?_
            subst hZ
            clear hK K
            refine kAll_p (fun K hK => ?_)
            go_simp
            generalize hZ : (Act.mk _ _) = Z
            refine hK Z ?_
            subst hZ
            clear hK K
            refine kAll_p (fun K hK => ?_)
            go_simp
            generalize hZ : (Act.mk _ _) = Z
            refine hK Z ?_
            subst hZ
            clear hK K
            refine kAll_dn _ (fun W hW hF => kStep_of fun K Q hK => ?_) (fun K hK => ?_)
            · exact wp_load_at 39 _ rfl gw (i * 15) rfl (cFr fi m l r c s) _ (fun j v h => (HRW.out W (keepD (Keep.refl _ _) hW)).1 j v (pre15 h)) Tryz.underlying39 rfl size39 (hK _ _ (Keep.refl _ _) rfl)
            go_simp
            generalize hZ : (Act.mk _ _) = Z
            refine hK Z ?_
            subst hZ
            clear hK K
            refine kAll_dn _ (fun W hW hF => kStep_of fun K Q hK => ?_) (fun K hK => ?_)
            · go_simp
              refine (may_is fi true HMi.out m l r c s W HK9.out ((HRW.out W (keepD (Keep.refl _ _) hW)).2) HFew.out).mono ?_
              rintro e w' ⟨rfl, hk⟩
              exact hK _ _ hk rfl
            go_simp
            generalize hZ : (Act.mk _ _) = Z
            refine hK Z ?_
            subst hZ
            clear hK K
            refine kAll_p (fun K hK => ?_)
            go_simp
            generalize hZ : (Act.mk _ _) = Z
            refine hK Z ?_
            subst hZ
            clear hK K
            refine kAll_p (fun K hK => ?_)
            go_simp
            generalize hZ : (Act.mk _ _) = Z
            refine hK Z ?_
            subst hZ
            clear hK K
            refine kAll_p (fun K hK => ?_)
            go_simp
            generalize hZ : (Act.mk _ _) = Z
            refine hK Z ?_
            subst hZ
            clear hK K
            refine kAll_p (fun K hK => ?_)
            go_simp
            generalize hZ : (Act.mk _ _) = Z
            refine hK Z ?_
            subst hZ
            clear hK K
            refine kAll_dn _ (fun W hW hF => kStep_of fun K Q hK => ?_) (fun K hK => ?_)
            · have c0 := (HRW.out W (keepD (Keep.refl _ _) hW)).1 14 _ rfl
              go_simp
              exact hK _ _ (Keep.refl _ _) rfl
            go_simp
            generalize hZ : (Act.mk _ _) = Z
            refine hK Z ?_
            subst hZ
            clear hK K
            refine kAll_p (fun K hK => ?_)
            go_simp
            generalize hZ : (Act.mk _ _) = Z
            refine hK Z ?_
            subst hZ
            clear hK K
            refine kAll_p (fun K hK => ?_)
            go_simp
            generalize hZ : (Act.mk _ _) = Z
            refine hK Z ?_
            subst hZ
            clear hK K
            refine kAll_pw (by kernel_rfl) (fun K hK => ?_)
            go_simp
            generalize hZ : (Act.mk _ _) = Z
            refine hK Z ?_
            subst hZ
            clear hK K
            refine kAll_pw (by kernel_rfl) (fun K hK => ?_)
            go_simp
            generalize hZ : (Act.mk _ _) = Z
            refine hK Z ?_
            subst hZ
            clear hK K
            refine kAll_pw (by kernel_rfl) (fun K hK => ?_)
            go_simp
            generalize hZ : (Act.mk _ _) = Z
            refine hK Z ?_
            subst hZ
            clear hK K
            refine kAll_pw (by kernel_rfl) (fun K hK => ?_)
            go_simp
            generalize hZ : (Act.mk _ _) = Z
            refine hK Z ?_
            subst hZ
            clear hK K
            refine kAll_pw (by kernel_rfl) (fun K hK => ?_)
            go_simp
            generalize hZ : (Act.mk _ _) = Z
            refine hK Z ?_
            subst hZ
            clear hK K
            refine kAll_pw (by kernel_rfl) (fun K hK => ?_)
            go_simp
            generalize hZ : (Act.mk _ _) = Z
            refine hK Z ?_
            subst hZ
            clear hK K
            refine kAll_dn _ (fun W hW hF => kStep_w (by kernel_rfl) fun K Q hK => ?_) (fun K hK => ?_)
            · have c0 := (HRW.out W (keepD (Keep.refl _ _) hW)).1 14 _ rfl
              go_simp
              exact hK _ _ (Keep.refl _ _) rfl
            go_simp
            generalize hZ : (Act.mk _ _) = Z
            refine hK Z ?_
            subst hZ
            clear hK K
            refine kAll_pw (by kernel_rfl) (fun K hK => ?_)
            go_simp
            generalize hZ : (Act.mk _ _) = Z
            refine hK Z ?_
            subst hZ
            clear hK K
            refine kAll_p (fun K hK => ?_)
            go_simp
            generalize hZ : (Act.mk _ _) = Z
            refine hK Z ?_
            subst hZ
            clear hK K
            refine kAll_p (fun K hK => ?_)
            go_simp
            generalize hZ : (Act.mk _ _) = Z
            refine hK Z ?_
            subst hZ
            clear hK K
            refine kAll_pw (by kernel_rfl) (fun K hK => ?_)
            go_simp
            generalize hZ : (Act.mk _ _) = Z
            refine hK Z ?_
            subst hZ
            clear hK K
            refine kAll_pw (by kernel_rfl) (fun K hK => ?_)
            go_simp
            generalize hZ : (Act.mk _ _) = Z
            refine hK Z ?_
            subst hZ
            clear hK K
            refine kAll_pw (by kernel_rfl) (fun K hK => ?_)
            go_simp
            generalize hZ : (Act.mk _ _) = Z
            refine hK Z ?_
            subst hZ
            clear hK K
            refine kAll_pw (by kernel_rfl) (fun K hK => ?_)
            go_simp
            generalize hZ : (Act.mk _ _) = Z
            refine hK Z ?_
            subst hZ
            clear hK K
            refine kAll_dn _ (fun W hW hF => kStep_w (by kernel_rfl) fun K Q hK => ?_) (fun K hK => ?_)
            · have c0 := (HRW.out W (keepD (Keep.refl _ _) hW)).1 14 _ rfl
              go_simp
              exact hK _ _ (Keep.refl _ _) rfl
            go_simp
            generalize hZ : (Act.mk _ _) = Z
            refine hK Z ?_
            subst hZ
            clear hK K
            refine kAll_pw (by kernel_rfl) (fun K hK => ?_)
            go_simp
            generalize hZ : (Act.mk _ _) = Z
            refine hK Z ?_
            subst hZ
            clear hK K
            refine kAll_pw (by kernel_rfl) (fun K hK => ?_)
            go_simp
            generalize hZ : (Act.mk _ _) = Z
            refine hK Z ?_
            subst hZ
            clear hK K
            refine kAll_pw (by kernel_rfl) (fun K hK => ?_)
            go_simp
            generalize hZ : (Act.mk _ _) = Z
            refine hK Z ?_
            subst hZ
            clear hK K
            refine kAll_pw (by kernel_rfl) (fun K hK => ?_)
            go_simp
            generalize hZ : (Act.mk _ _) = Z
            refine hK Z ?_
            subst hZ
            clear hK K
            refine kAll_pw (by kernel_rfl) (fun K hK => ?_)
            go_simp
            generalize hZ : (Act.mk _ _) = Z
            refine hK Z ?_
            subst hZ
            clear hK K
            refine kAll_dn _ (fun W hW hF => kStep_w (by kernel_rfl) fun K Q hK => ?_) (fun K hK => ?_)
            · exact wp_load_at 39 _ rfl gw (i * 15) rfl (cFr fi m l r c s) _ (fun j v h => (HRW.out W (keepD (Keep.refl _ _) hW)).1 j v (pre15 h)) Tryz.underlying39 rfl size39 (hK _ _ (Keep.refl _ _) rfl)
            go_simp
            generalize hZ : (Act.mk _ _) = Z
            refine hK Z ?_
            subst hZ
            clear hK K
            refine kAll_dn _ (fun W hW hF => kStep_w (by kernel_rfl) fun K Q hK => ?_) (fun K hK => ?_)
            · go_simp
              refine (back_any fi m l r c s W HK9.out ((HRW.out W (keepD (Keep.refl _ _) hW)).2) HFew.out HE.out).mono ?_
              rintro e w' ⟨rfl, hk⟩
              exact hK _ _ hk rfl
            go_simp
            generalize hZ : (Act.mk _ _) = Z
            refine hK Z ?_
            subst hZ
            clear hK K
            refine kAll_pw (by kernel_rfl) (fun K hK => ?_)
            go_simp
            generalize hZ : (Act.mk _ _) = Z
            refine hK Z ?_
            subst hZ
            clear hK K
            refine kAll_pw (by kernel_rfl) (fun K hK => ?_)
            go_simp
            generalize hZ : (Act.mk _ _) = Z
            refine hK Z ?_
            subst hZ
            clear hK K
            refine kAll_p (fun K hK => ?_)
            go_simp
            generalize hZ : (Act.mk _ _) = Z
            refine hK Z ?_
            subst hZ
            clear hK K
            refine kAll_nil (fun Z2 hW hF => ?_)
            clear hF
            have KZ2 := Lib.hid (keep0_trans _ _ _ KI.out (keep0_trans _ _ _ KZ.out (keepD (Keep.refl _ _) hW)))
            clear hW
            go_wp2
            go_roundw
            case rel => exact ⟨i + 1, by omega, by go_num, KZ2⟩
            case measure => simp [intOf]; omega
        · obtain rfl : i = 11 := by omega
          have KE := Lib.hid (keep0_trans _ _ _ HKU.out KI.out)
          have HL2 := HLT.out
          go_wp2
          go_roundw
          case rel => exact ⟨k + 1, by omega, by go_num, KE⟩
          case measure => simp [intOf]; omega
    · obtain rfl : k = 13 := by omega
      have KKr := Lib.hid (keep0_trans _ _ _ KK.out KR.out)
      have HIr := Lib.hid (HI.out.keep KR.out (fun h => h))
      have HOr := Lib.hid (HO.out.keep KR.out (fun h => h))
      clear HV HA HI HO HX HVv HVa KK KR
      go_upto_region 39 with (fail)
      refine wp_region_kord (Keep (fun _ => False)) (Keep.refl _) keep0_trans 18 (Ts := [some (.inl (.agg #[.int .u8 0, .int .i64 0, .int .i64 0, .int .i64 0, .int .i64 0, .int .i64 0, .int .i64 0, .int .i64 0, .int .i64 0, .slice none 0 0, .slice none 0 0, .slice none 0 0, .slice none 0 0, .slice none 0 0])), some (.inl (.agg #[.int .i64 4, .int .i64 1])), some (.inl (.agg #[.int .i64 5, .int .i64 0])), some (.inl (.agg #[.int .u8 14, .int .i64 4, .int .i64 1, .int .i64 5, .int .i64 0, .int .i64 0, .int .i64 0, .int .i64 0, .int .i64 0, .slice none 0 0, .slice none 0 0, .slice none 0 0, .slice none 0 0, .slice none 0 0])), some (.inl (.agg #[.int .i64 5, .int .i64 0])), some (.inl (.agg #[.int .u8 1, .int .i64 0, .int .i64 0, .int .i64 5, .int .i64 0, .int .i64 0, .int .i64 0, .int .i64 0, .int .i64 0, .slice none 0 0, .slice none 0 0, .slice none 0 0, .slice none 0 0, .slice none 0 0])), some (.inl (.agg #[.int .i64 4, .int .i64 1])), some (.inl (.agg #[.int .u8 1, .int .i64 4, .int .i64 1, .int .i64 0, .int .i64 0, .int .i64 0, .int .i64 0, .int .i64 0, .int .i64 0, .slice none 0 0, .slice none 0 0, .slice none 0 0, .slice none 0 0, .slice none 0 0])), some (.inl (.agg #[.int .i64 4, .int .i64 1])), some (.inl (.agg #[.int .i64 13, .int .i64 0])), some (.inl (.agg #[.int .u8 1, .int .i64 4, .int .i64 1, .int .i64 13, .int .i64 0, .int .i64 0, .int .i64 0, .int .i64 0, .int .i64 0, .slice none 0 0, .slice none 0 0, .slice none 0 0, .slice none 0 0, .slice none 0 0])), some (.inl (.agg #[.int .i64 4, .int .i64 1])), some (.inl (.agg #[.int .i64 1, .int .i64 (-1)])), some (.inl (.agg #[.int .u8 1, .int .i64 4, .int .i64 1, .int .i64 1, .int .i64 (-1), .int .i64 0, .int .i64 0, .int .i64 0, .int .i64 0, .slice none 0 0, .slice none 0 0, .slice none 0 0, .slice none 0 0, .slice none 0 0])), some (.inl (.agg #[.int .i64 4, .int .i64 1])), some (.inl (.agg #[.int .i64 5, .int .i64 0])), some (.inl (.agg #[.int .u8 7, .int .i64 4, .int .i64 1, .int .i64 5, .int .i64 0, .int .i64 0, .int .i64 0, .int .i64 0, .int .i64 0, .slice none 0 0, .slice none 0 0, .slice none 0 0, .slice none 0 0, .slice none 0 0])), some (.inr (fun v W => ∃ g, v = .slice (some ⟨g, 0, none⟩) 7 7 ∧ Blk W g 39 #[.int .u8 0, .int .i64 0, .int .i64 0, .int .i64 0, .int .i64 0, .int .i64 0, .int .i64 0, .int .i64 0, .int .i64 0, .slice none 0 0, .slice none 0 0, .slice none 0 0, .slice none 0 0, .slice none 0 0, .int .u8 14, .int .i64 4, .int .i64 1, .int .i64 5, .int .i64 0, .int .i64 0, .int .i64 0, .int .i64 0, .int .i64 0, .slice none 0 0, .slice none 0 0, .slice none 0 0, .slice none 0 0, .slice none 0 0, .int .u8 1, .int .i64 0, .int .i64 0, .int .i64 5, .int .i64 0, .int .i64 0, .int .i64 0, .int .i64 0, .int .i64 0, .slice none 0 0, .slice none 0 0, .slice none 0 0, .slice none 0 0, .slice none 0 0, .int .u8 1, .int .i64 4, .int .i64 1, .int .i64 0, .int .i64 0, .int .i64 0, .int .i64 0, .int .i64 0, .int .i64 0, .slice none 0 0, .slice none 0 0, .slice none 0 0, .slice none 0 0, .slice none 0 0, .int .u8 1, .int .i64 4, .int .i64 1, .int .i64 13, .int .i64 0, .int .i64 0, .int .i64 0, .int .i64 0, .int .i64 0, .slice none 0 0, .slice none 0 0, .slice none 0 0, .slice none 0 0, .slice none 0 0, .int .u8 1, .int .i64 4, .int .i64 1, .int .i64 1, .int .i64 (-1), .int .i64 0, .int .i64 0, .int .i64 0, .int .i64 0, .slice none 0 0, .slice none 0 0, .slice none 0 0, .slice none 0 0, .slice none 0 0, .int .u8 7, .int .i64 4, .int .i64 1, .int .i64 5, .int .i64 0, .int .i64 0, .int .i64 0, .int .i64 0, .int .i64 0, .slice none 0 0, .slice none 0 0, .slice none 0 0, .slice none 0 0, .slice none 0 0] ∧ 0 ≤ g))]) ?_
      simp only [List.take, List.drop]
      refine kAll_dn _ (fun W hW hF => kStep_of fun K Q hK => ?_) (fun K hK => ?_)
      · exact wp_build_is 39 _ rfl (l := []) (by kernel_rfl) (bl39_ ) (hK _ _ (Keep.refl _ _) rfl)
      go_simp
      generalize hZ : (Act.mk _ _) = Z
      refine hK Z ?_
      subst hZ
      clear hK K
      refine kAll_dn _ (fun W hW hF => kStep_of fun K Q hK => ?_) (fun K hK => ?_)
      · have c0 := (HIr.out.keep hW (fun h => h)).cell 0
        have c1 := (HIr.out.keep hW (fun h => h)).cell 1
        simp at c0 c1
        go_simp
        exact hK _ _ (Keep.refl _ _) rfl
      go_simp
      generalize hZ : (Act.mk _ _) = Z
      refine hK Z ?_
      subst hZ
      clear hK K
      refine kAll_dn _ (fun W hW hF => kStep_of fun K Q hK => ?_) (fun K hK => ?_)
      · have c0 := (HOr.out.keep hW (fun h => h)).cell 0
        have c1 := (HOr.out.keep hW (fun h => h)).cell 1
        simp at c0 c1
        go_simp
        exact hK _ _ (Keep.refl _ _) rfl
      go_simp
      generalize hZ : (Act.mk _ _) = Z
      refine hK Z ?_
      subst hZ
      clear hK K
      refine kAll_dn _ (fun W hW hF => kStep_of fun K Q hK => ?_) (fun K hK => ?_)
      · exact wp_build_is 39 _ rfl (l := [(0, .int .u8 14), (1, .agg #[.int .i64 4, .int .i64 1]), (2, .agg #[.int .i64 5, .int .i64 0])]) (by kernel_rfl) (bl39_012 14 4 1 5 0) (hK _ _ (Keep.refl _ _) rfl)
      go_simp
      generalize hZ : (Act.mk _ _) = Z
      refine hK Z ?_
      subst hZ
      clear hK K
      refine kAll_dn _ (fun W hW hF => kStep_of fun K Q hK => ?_) (fun K hK => ?_)
      · have c0 := (HOr.out.keep hW (fun h => h)).cell 0
        have c1 := (HOr.out.keep hW (fun h => h)).cell 1
        simp at c0 c1
        go_simp
        exact hK _ _ (Keep.refl _ _) rfl
      go_simp
      generalize hZ : (Act.mk _ _) = Z
      refine hK Z ?_
      subst hZ
      clear hK K
      refine kAll_dn _ (fun W hW hF => kStep_of fun K Q hK => ?_) (fun K hK => ?_)
      · exact wp_build_is 39 _ rfl (l := [(0, .int .u8 1), (2, .agg #[.int .i64 5, .int .i64 0])]) (by kernel_rfl) (bl39_02 1 5 0) (hK _ _ (Keep.refl _ _) rfl)
      go_simp
      generalize hZ : (Act.mk _ _) = Z
      refine hK Z ?_
      subst hZ
      clear hK K
      refine kAll_dn _ (fun W hW hF => kStep_of fun K Q hK => ?_) (fun K hK => ?_)
      · have c0 := (HIr.out.keep hW (fun h => h)).cell 0
        have c1 := (HIr.out.keep hW (fun h => h)).cell 1
        simp at c0 c1
        go_simp
        exact hK _ _ (Keep.refl _ _) rfl
      go_simp
      generalize hZ : (Act.mk _ _) = Z
      refine hK Z ?_
      subst hZ
      clear hK K
      refine kAll_dn _ (fun W hW hF => kStep_of fun K Q hK => ?_) (fun K hK => ?_)
      · exact wp_build_is 39 _ rfl (l := [(0, .int .u8 1), (1, .agg #[.int .i64 4, .int .i64 1])]) (by kernel_rfl) (bl39_01 1 4 1) (hK _ _ (Keep.refl _ _) rfl)
      go_simp
      generalize hZ : (Act.mk _ _) = Z
      refine hK Z ?_
      subst hZ
      clear hK K
      refine kAll_dn _ (fun W hW hF => kStep_of fun K Q hK => ?_) (fun K hK => ?_)
      · have c0 := (HIr.out.keep hW (fun h => h)).cell 0
        have c1 := (HIr.out.keep hW (fun h => h)).cell 1
        simp at c0 c1
        go_simp
        exact hK _ _ (Keep.refl _ _) rfl
      go_simp
      generalize hZ : (Act.mk _ _) = Z
      refine hK Z ?_
      subst hZ
      clear hK K
      refine kAll_dn _ (fun W hW hF => kStep_of fun K Q hK => ?_) (fun K hK => ?_)
      · exact wp_build_is 24 _ rfl (l := [(0, .int .i64 13)]) (by kernel_rfl) (bl24_0 13) (hK _ _ (Keep.refl _ _) rfl)
      go_simp
      generalize hZ : (Act.mk _ _) = Z
      refine hK Z ?_
      subst hZ
      clear hK K
      refine kAll_dn _ (fun W hW hF => kStep_of fun K Q hK => ?_) (fun K hK => ?_)
      · exact wp_build_is 39 _ rfl (l := [(0, .int .u8 1), (1, .agg #[.int .i64 4, .int .i64 1]), (2, .agg #[.int .i64 13, .int .i64 0])]) (by kernel_rfl) (bl39_012 1 4 1 13 0) (hK _ _ (Keep.refl _ _) rfl)
      go_simp
      generalize hZ : (Act.mk _ _) = Z
      refine hK Z ?_
      subst hZ
      clear hK K
      refine kAll_dn _ (fun W hW hF => kStep_of fun K Q hK => ?_) (fun K hK => ?_)
      · have c0 := (HIr.out.keep hW (fun h => h)).cell 0
        have c1 := (HIr.out.keep hW (fun h => h)).cell 1
        simp at c0 c1
        go_simp
        exact hK _ _ (Keep.refl _ _) rfl
      go_simp
      generalize hZ : (Act.mk _ _) = Z
      refine hK Z ?_
      subst hZ
      clear hK K
      refine kAll_dn _ (fun W hW hF => kStep_of fun K Q hK => ?_) (fun K hK => ?_)
      · exact wp_build_is 24 _ rfl (l := [(0, .int .i64 1), (1, .int .i64 (-1))]) (by kernel_rfl) (bl24_01 1 (-1)) (hK _ _ (Keep.refl _ _) rfl)
      go_simp
      generalize hZ : (Act.mk _ _) = Z
      refine hK Z ?_
      subst hZ
      clear hK K
      refine kAll_dn _ (fun W hW hF => kStep_of fun K Q hK => ?_) (fun K hK => ?_)
      · exact wp_build_is 39 _ rfl (l := [(0, .int .u8 1), (1, .agg #[.int .i64 4, .int .i64 1]), (2, .agg #[.int .i64 1, .int .i64 (-1)])]) (by kernel_rfl) (bl39_012 1 4 1 1 (-1)) (hK _ _ (Keep.refl _ _) rfl)
      go_simp
      generalize hZ : (Act.mk _ _) = Z
      refine hK Z ?_
      subst hZ
      clear hK K
      refine kAll_dn _ (fun W hW hF => kStep_of fun K Q hK => ?_) (fun K hK => ?_)
      · have c0 := (HIr.out.keep hW (fun h => h)).cell 0
        have c1 := (HIr.out.keep hW (fun h => h)).cell 1
        simp at c0 c1
        go_simp
        exact hK _ _ (Keep.refl _ _) rfl
      go_simp
      generalize hZ : (Act.mk _ _) = Z
      refine hK Z ?_
      subst hZ
      clear hK K
      refine kAll_dn _ (fun W hW hF => kStep_of fun K Q hK => ?_) (fun K hK => ?_)
      · have c0 := (HOr.out.keep hW (fun h => h)).cell 0
        have c1 := (HOr.out.keep hW (fun h => h)).cell 1
        simp at c0 c1
        go_simp
        exact hK _ _ (Keep.refl _ _) rfl
      go_simp
      generalize hZ : (Act.mk _ _) = Z
      refine hK Z ?_
      subst hZ
      clear hK K
      refine kAll_dn _ (fun W hW hF => kStep_of fun K Q hK => ?_) (fun K hK => ?_)
      · exact wp_build_is 39 _ rfl (l := [(0, .int .u8 7), (1, .agg #[.int .i64 4, .int .i64 1]), (2, .agg #[.int .i64 5, .int .i64 0])]) (by kernel_rfl) (bl39_012 7 4 1 5 0) (hK _ _ (Keep.refl _ _) rfl)
      go_simp
      generalize hZ : (Act.mk _ _) = Z
      refine hK Z ?_
      subst hZ
      clear hK K
      refine kAll_tn _ (fun v W W' hk h => by obtain ⟨g, e, h, hl⟩ := h; exact ⟨g, e, h.keep hk (fun h => h), hl⟩) (fun W hW hF => kStep_of fun K Q hK => ?_) (fun u0 K hK => ?_)
      · exact wp_buildRows 48 39 7 _ rfl i39 _ Tryz.underlying48 HQ39.out HY39.out HX39.out (by decide) (by decide) (by decide) (vs := [.agg #[.int .u8 0, .int .i64 0, .int .i64 0, .int .i64 0, .int .i64 0, .int .i64 0, .int .i64 0, .int .i64 0, .int .i64 0, .slice none 0 0, .slice none 0 0, .slice none 0 0, .slice none 0 0, .slice none 0 0], .agg #[.int .u8 14, .int .i64 4, .int .i64 1, .int .i64 5, .int .i64 0, .int .i64 0, .int .i64 0, .int .i64 0, .int .i64 0, .slice none 0 0, .slice none 0 0, .slice none 0 0, .slice none 0 0, .slice none 0 0], .agg #[.int .u8 1, .int .i64 0, .int .i64 0, .int .i64 5, .int .i64 0, .int .i64 0, .int .i64 0, .int .i64 0, .int .i64 0, .slice none 0 0, .slice none 0 0, .slice none 0 0, .slice none 0 0, .slice none 0 0], .agg #[.int .u8 1, .int .i64 4, .int .i64 1, .int .i64 0, .int .i64 0, .int .i64 0, .int .i64 0, .int .i64 0, .int .i64 0, .slice none 0 0, .slice none 0 0, .slice none 0 0, .slice none 0 0, .slice none 0 0], .agg #[.int .u8 1, .int .i64 4, .int .i64 1, .int .i64 13, .int .i64 0, .int .i64 0, .int .i64 0, .int .i64 0, .int .i64 0, .slice none 0 0, .slice none 0 0, .slice none 0 0, .slice none 0 0, .slice none 0 0], .agg #[.int .u8 1, .int .i64 4, .int .i64 1, .int .i64 1, .int .i64 (-1), .int .i64 0, .int .i64 0, .int .i64 0, .int .i64 0, .slice none 0 0, .slice none 0 0, .slice none 0 0, .slice none 0 0, .slice none 0 0], .agg #[.int .u8 7, .int .i64 4, .int .i64 1, .int .i64 5, .int .i64 0, .int .i64 0, .int .i64 0, .int .i64 0, .int .i64 0, .slice none 0 0, .slice none 0 0, .slice none 0 0, .slice none 0 0, .slice none 0 0]]) rfl (fun v hv => by simp only [List.mem_cons, List.not_mem_nil, or_false] at hv; rcases hv with rfl | rfl | rfl | rfl | rfl | rfl | rfl <;> rfl) (by kernel_rfl) (cells := #[.int .u8 0, .int .i64 0, .int .i64 0, .int .i64 0, .int .i64 0, .int .i64 0, .int .i64 0, .int .i64 0, .int .i64 0, .slice none 0 0, .slice none 0 0, .slice none 0 0, .slice none 0 0, .slice none 0 0, .int .u8 14, .int .i64 4, .int .i64 1, .int .i64 5, .int .i64 0, .int .i64 0, .int .i64 0, .int .i64 0, .int .i64 0, .slice none 0 0, .slice none 0 0, .slice none 0 0, .slice none 0 0, .slice none 0 0, .int .u8 1, .int .i64 0, .int .i64 0, .int .i64 5, .int .i64 0, .int .i64 0, .int .i64 0, .int .i64 0, .int .i64 0, .slice none 0 0, .slice none 0 0, .slice none 0 0, .slice none 0 0, .slice none 0 0, .int .u8 1, .int .i64 4, .int .i64 1, .int .i64 0, .int .i64 0, .int .i64 0, .int .i64 0, .int .i64 0, .int .i64 0, .slice none 0 0, .slice none 0 0, .slice none 0 0, .slice none 0 0, .slice none 0 0, .int .u8 1, .int .i64 4, .int .i64 1, .int .i64 13, .int .i64 0, .int .i64 0, .int .i64 0, .int .i64 0, .int .i64 0, .slice none 0 0, .slice none 0 0, .slice none 0 0, .slice none 0 0, .slice none 0 0, .int .u8 1, .int .i64 4, .int .i64 1, .int .i64 1, .int .i64 (-1), .int .i64 0, .int .i64 0, .int .i64 0, .int .i64 0, .slice none 0 0, .slice none 0 0, .slice none 0 0, .slice none 0 0, .slice none 0 0, .int .u8 7, .int .i64 4, .int .i64 1, .int .i64 5, .int .i64 0, .int .i64 0, .int .i64 0, .int .i64 0, .int .i64 0, .slice none 0 0, .slice none 0 0, .slice none 0 0, .slice none 0 0, .slice none 0 0]) (by kernel_rfl) (hK _ _ ((Keep.refl _ _).alloc _) ⟨_, rfl, Blk.new _ _ _, Nat.zero_le _⟩)
      go_simp
      generalize hZ : (Act.mk _ _) = Z
      refine hK Z ?_
      subst hZ
      clear hK K
      refine kAll_nil (fun X1 hW hF => ?_)
      obtain ⟨gb, rfl, hB, _⟩ := hF.1
      have HBB := Lib.hid hB
      replace KKr := Lib.hid (keep0_trans _ _ _ KKr.out hW)
      clear hF hW hB HIr HOr
      go_wp2_with fail
      go_loopw [268] (fun iv wr => ∃ q : Nat, q ≤ 7 ∧ iv = .int .i64 (q : Int) ∧ Hid (Keep (fun _ => False) X1 wr)) (fun iv _ => 7 - (intOf iv).toNat)
      case atStart => exact ⟨0, by omega, rfl, Lib.hid (Keep.refl _ _)⟩
      case round =>
       as_aux_lemma =>
        obtain ⟨q, hq, rfl, KQ⟩ := hrel
        have e2 : IntKind.i64.wrap ((q : Int) + 1) = (q : Int) + 1 := IntWalk.i64_in _ (by omega)
        by_cases hl2 : q < 7
        · have q3 : (q : Int) < 7 := by omega
          have q4 : (0 : Int) ≤ (q : Int) := by omega
          have HL := Lib.hid (wrong_at (HBB.out.keep KQ.out (fun h => h)) hl2)
          have hm := wrong_may q hl2
          have hv := wrong_view q hl2
          have hkd := wrong_kind q hl2
          generalize wrongF q = fq at *
          have HMi := Lib.hid hm
          have HVi := Lib.hid hv
          have HK9 := Lib.hid hkd
          clear hm hv hkd
          go_upto_region 42 with (first | (refine wpList_load_at rfl 39 _ rfl gb (q * 14) rfl (cFr fq (.slice none 0 0) (.slice none 0 0) (.slice none 0 0) (.slice none 0 0) (.slice none 0 0)) _ HL.out Tryz.underlying39 rfl size39 ?_) | (refine wpList_store_row rfl 39 _ _ rfl wr.heap.size (cFr fq (.slice none 0 0) (.slice none 0 0) (.slice none 0 0) (.slice none 0 0) (.slice none 0 0)).toArray rfl rfl 39 _ (Blk.new _ _ _) size39 rfl (oneF fq) ?_; rw [alloc_setRow]))
          have hb := Blk.new wr 39 (cFr fq (.slice none 0 0) (.slice none 0 0) (.slice none 0 0) (.slice none 0 0) (.slice none 0 0)).toArray
          have hk1 := (Keep.refl (fun _ => False) wr).alloc (.cells (cFr fq (.slice none 0 0) (.slice none 0 0) (.slice none 0 0) (.slice none 0 0) (.slice none 0 0)).toArray 39)
          generalize wr.alloc (.cells (cFr fq (.slice none 0 0) (.slice none 0 0) (.slice none 0 0) (.slice none 0 0) (.slice none 0 0)).toArray 39) = X2 at *
          have HB2 := Lib.hid hb
          have KQ2 := Lib.hid (keep0_trans _ _ _ KQ.out hk1)
          generalize wr.heap.size = g2 at *
          clear hb hk1 HL
          go_wp2_with (first | (refine wpList_load_row rfl 39 _ rfl g2 rfl 39 _ (0, 0) _ HB2.out Tryz.underlying39 rfl size39 ?_) | fail)
          refine (may_is fq false HMi.out _ _ _ _ _ _ HK9.out (by rw [HVi.out]; exact isV_empty _) (by rw [HVi.out]; exact few_empty)).mono ?_
          rintro e X3 ⟨rfl, hk2⟩
          replace KQ2 := Lib.hid (keep0_trans _ _ _ KQ2.out hk2)
          clear hk2
          go_wp2
          go_roundw
          case rel => exact ⟨q + 1, by omega, by go_num, KQ2⟩
          case measure => simp [intOf]; omega
        · obtain rfl : q = 7 := by omega
          have KE := Lib.hid (keep0_trans _ _ _ KKr.out KQ.out)
          go_wp2_with fail
          refine (tooLarge_any _).mono ?_
          rintro e X3 ⟨rfl, hk2⟩
          replace KE := Lib.hid (keep0_trans _ _ _ KE.out hk2)
          clear hk2
          go_wp2
          go_ret
          exact ⟨rfl, KE.out⟩
theorem walkFrameNames {w : World} : Calls Tryz.prog 3 #[] w fun e w' => e = .returned (.bool true) ∧ Below w.heap.size w w' := (frameNames_tell w).mono fun _ _ ⟨h, k⟩ => ⟨h, k.b⟩
end Go.Proofs.YtgoldgamjogadaaGreat
