/-
  ring.Behind.
-/
import Derived.Test.YtafolmgbmobfbaaRinB
namespace Go.Proofs.Ytafolmgbmobfbaa
open Go.RowKit

def lastM (s : List ID) : ID := s.getLast?.getD (0, 0)
/-- between two rounds of Behind -/
structure BhAt (w : World) (A : Option Addr) (m c : Nat) (me : ID) (s : List ID) (W : World) : Prop where
  last : Blk W (w.heap.size + 1) 23 #[.int .i64 (lastM s).1, .int .i64 (lastM s).2]
  is : Blk W (w.heap.size + 1 + 1) 4 #[.bool s.getLast?.isSome]
  bi : Blk W (w.heap.size + 1 + 1 + 1) 25 #[.slice A m c]
  bm : Blk W (w.heap.size + 1 + 1 + 1 + 1) 23 #[.int .i64 me.1, .int .i64 me.2]
  keep : Keep (fun _ => False) w W
theorem BhAt.kept {w : World} {A : Option Addr} {m c : Nat} {me : ID} {s : List ID} {W W' : World} (h : BhAt w A m c me s W)
    (hk : Keep (fun k => k = w.heap.size + 5 ∨ k = w.heap.size + 5 + 1 ∨ k = w.heap.size + 5 + 2) W W') : BhAt w A m c me s W' :=
  ⟨h.last.keep hk (by omega), h.is.keep hk (by omega), h.bi.keep hk (by omega), h.bm.keep hk (by omega), h.keep.trans (hk.mono fun k _ hs => .inr (by omega))⟩
def behV (l : List ID) (me : ID) : Value := .tuple #[idV (lastM (ordM l me)), .bool (ordM l me).getLast?.isSome]
set_option maxRecDepth 100000 in
set_option maxHeartbeats 4000000 in
theorem behind_any (A : Option Addr) (m c : Nat) (ids : List ID) (me : ID) (w : World) (h : RdI w A m ids) (hm : m ≤ 500000) :
    Calls Try.prog 9 #[.slice A m c, idV me] w (Tell (behV ids me) w) := by
  obtain ⟨ma, mi⟩ := me
  have eg : ∀ args w, (callFunc 28 args).run Try.prog w = .ok (.enter 28 args) w := enters_of Try.func28 (by kernel_rfl) rfl
  have HR := Lib.hid h
  clear h
  refine (callsIn_wide (n := 8)).1 ?_
  refine callsIn_of_wp_marks Try.func9 rfl trivial ?_ rfl
  simp only [Try.ntmps9, List.size_toArray, List.length_cons, List.length_nil, Nat.reduceAdd, Nat.reduceSub, Array.replicate_succ, Array.replicate_zero, List.push_toArray, List.append_toArray, List.nil_append, List.cons_append]
  gi_wp2_with fail
  refine ⟨trivial, CallsIn.mono (callsIn_wide.2 (around_any A m c (ma, mi) _)) ?_⟩
  rintro e w1 ⟨rfl, hw1⟩
  have hsz : w1.heap.size = w.heap.size + 5 := by rw [hw1]; simp
  have hWt : BhAt w A m c (ma, mi) [] w1 := by
    rw [hw1]
    refine ⟨?_, ?_, ?_, ?_, ?_⟩
    · exact (((Blk.new_ (by simp) _ _).alloc _).alloc _).alloc _
    · exact ((Blk.new_ (by simp) _ _).alloc _).alloc _
    · exact (Blk.new_ (by simp) _ _).alloc _
    · exact Blk.new_ (by simp) _ _
    · exact (((((Keep.refl _ w).alloc _).alloc _).alloc _).alloc _).alloc _
  have HWt := Lib.hid hWt
  have HSz := Lib.hid hsz
  clear hWt hw1 hsz
  simp only [World.size_alloc]
  gi_wp2
  refine rangeFunc_gives (by omega) rfl eg (around1_in 7 (by omega) (w.heap.size + 1 + 1 + 1) (w.heap.size + 1 + 1 + 1 + 1) A m c ids (ma, mi) (by omega)) (fun x => #[.int .i64 x.1, .int .i64 x.2]) 23
    (BhAt w A m c (ma, mi))
    (fun W1 hk => HWt.out.kept (hk.mono fun _ _ h => h.elim)) (fun s W hI => ⟨hI.bi.cell 0, hI.bm, HR.out.keep0 hI.keep⟩)
    (fun s A B hI hk => hI.kept (by rw [HSz.out] at hk; exact hk)) (fun x b => { tmps := #[.slice A m c, idV (ma, mi), undef, .pointer (some ⟨w.heap.size, 0, none⟩), .pointer (some ⟨w.heap.size + 1, 0, none⟩), .pointer (some ⟨w.heap.size + 1 + 1, 0, none⟩), .pointer (some ⟨b, 0, none⟩), .slice A m c, .agg #[.int .i64 ma, .int .i64 mi], .func (.func 28) #[] #[.pointer (some ⟨w.heap.size + 1 + 1 + 1, 0, none⟩), .pointer (some ⟨w.heap.size + 1 + 1 + 1 + 1, 0, none⟩)], idV x, undef, undef, undef], defers := [] }) ?_ ?_ ?_
  · intro l x W K hK
    obtain ⟨a, i⟩ := x
    have HK := Lib.hid hK
    clear hK
    simp only [List.setIfInBounds_toArray, List.set_cons_succ, List.set_cons_zero]
    gi_wp2_with (rw [Oper.semAt_eq _ _ _ (fun c h => by cases h)]; go_simp)
    exact HK.out
  · intro pre x W b hI hb hbt hlen
    obtain ⟨a, i⟩ := x
    have c0 := hI.last.cell 0
    have c1 := hI.last.cell 1
    have c2 := hI.is.cell 0
    have f0 := hI.last.frozen 0
    have f1 := hI.last.frozen 1
    have f2 := hI.is.frozen 0
    have b0 := hb.cell 0
    have b1 := hb.cell 1
    have HI := Lib.hid hI
    have HB := Lib.hid hb
    have hsz := HI.out.is.lt
    have hsb := HB.out.lt
    clear hI hb
    gi_wp2_with (rw [Oper.semAt_eq _ _ _ (fun c h => by cases h)]; go_simp)
    have hsz1 := HSz.out
    have hks : Keep (fun g => g = w.heap.size + 1 ∨ g = w.heap.size + 1 + 1) W (((W.setCell ⟨w.heap.size + 1, 0, none⟩ (.int .i64 a)).setCell ⟨w.heap.size + 1, 1, none⟩ (.int .i64 i)).setCell ⟨w.heap.size + 1 + 1, 0, none⟩ (.bool true)) :=
      (((Keep.refl (fun g => g = w.heap.size + 1 ∨ g = w.heap.size + 1 + 1) W).setCell (p := ⟨w.heap.size + 1, 0, none⟩) (fun _ => .inl rfl) _).setCell (p := ⟨w.heap.size + 1, 1, none⟩) (fun _ => .inl rfl) _).setCell (p := ⟨w.heap.size + 1 + 1, 0, none⟩) (fun _ => .inr rfl) _
    refine ⟨hks.mono fun g _ e => by omega, ?_, ?_, HI.out.bi.keep hks (by omega), HI.out.bm.keep hks (by omega), HI.out.keep.trans (hks.mono fun g _ e => .inr (by omega))⟩
    · have e : lastM (pre ++ [(a, i)]) = (a, i) := by simp [lastM]
      rw [e]
      exact ((HI.out.last.set_ 0 _).set_ 1 _).far (by simp) _
    · have e : (pre ++ [(a, i)]).getLast?.isSome = true := by simp
      rw [e]
      exact ((HI.out.is.far (by simp) _).far (by simp) _).set_ 0 _
  · intro xs W hS hI hD
    have c0 := hI.last.cell 0
    have c1 := hI.last.cell 1
    have c2 := hI.is.cell 0
    have f0 := hI.last.frozen 0
    have f1 := hI.last.frozen 1
    have f2 := hI.is.frozen 0
    have HI := Lib.hid hI
    have HD := Lib.hid hD
    have HS := Lib.hid hS
    have hb0 := HI.out.last
    have hb1 := HI.out.is
    have hsz1 := HSz.out
    have hlt1 := HI.out.is.lt
    have hV : Hid (behV ids (ma, mi) = .tuple #[idV (lastM xs), .bool xs.getLast?.isSome]) := Lib.hid (by rw [HS.out]; rfl)
    generalize lastM xs = la at *
    generalize xs.getLast?.isSome = bs at *
    obtain ⟨a, i⟩ := la
    have HB0 := Lib.hid hb0
    have HB1 := Lib.hid hb1
    clear hI hD hS hb0 hb1
    simp only at c0 c1 c2
    gi_wp2
    gi_region
    have hks : Keep (fun g => g = w.heap.size + 1 ∨ g = w.heap.size + 1 + 1) W (((W.setCell ⟨w.heap.size + 1, 0, none⟩ (.int .i64 a)).setCell ⟨w.heap.size + 1, 1, none⟩ (.int .i64 i)).setCell ⟨w.heap.size + 1 + 1, 0, none⟩ (.bool bs)).drew :=
      ((((Keep.refl (fun g => g = w.heap.size + 1 ∨ g = w.heap.size + 1 + 1) W).setCell (p := ⟨w.heap.size + 1, 0, none⟩) (fun _ => .inl rfl) _).setCell (p := ⟨w.heap.size + 1, 1, none⟩) (fun _ => .inl rfl) _).setCell (p := ⟨w.heap.size + 1 + 1, 0, none⟩) (fun _ => .inr rfl) _).drew
    have hb0 := (((HB0.out.set_ 0 (.int .i64 a)).set_ 1 (.int .i64 i)).far (p := ⟨w.heap.size + 1 + 1, 0, none⟩) (by simp) (.bool bs)).drew
    have hb1 := (((HB1.out.far (p := ⟨w.heap.size + 1, 0, none⟩) (by simp) (.int .i64 a)).far (p := ⟨w.heap.size + 1, 1, none⟩) (by simp) (.int .i64 i)).set_ 0 (.bool bs)).drew
    generalize hWf : (((W.setCell ⟨w.heap.size + 1, 0, none⟩ (.int .i64 a)).setCell ⟨w.heap.size + 1, 1, none⟩ (.int .i64 i)).setCell ⟨w.heap.size + 1 + 1, 0, none⟩ (.bool bs)).drew = Wf at *
    have hd : Wf.heap[w.heap.size + 5]? = some (.deferred (some [])) := hks.heap (by have := HD.out; rwa [HSz.out] at this) (by omega)
    have hk : Keep (fun g => g = w.heap.size + 5) Wf (Wf.putObj (w.heap.size + 5) (.deferred none)) := Keep.grown (grownBy_putObj _ _ _) (fun k e => by injection e with e; exact e.symm)
    have HHd := Lib.hid hd
    have HKs := Lib.hid hks
    have HHk := Lib.hid hk
    have HC0 := Lib.hid (hb0.keep hk (by omega))
    have HC1 := Lib.hid (hb1.keep hk (by omega))
    clear hd hks hk hb0 hb1 hWf c0 c1 c2 f0 f1 f2
    gi_wp2
    refine ⟨by simp, .inl ⟨_, _, rfl, run_takeDeferred HHd.out, ?_⟩⟩
    have r0 := HC0.out.cell 0
    have r1 := HC0.out.cell 1
    have r2 := HC1.out.cell 0
    refine ⟨.tuple #[idV (a, i), .bool bs], by simp [results, Try.results9, go_sem, r0, r1, r2], ?_, ?_⟩
    · rw [hV.out]
    · exact (HI.out.keep.trans (HKs.out.mono fun g _ e => .inr (by omega))).trans (HHk.out.mono fun g _ e => .inr (by omega))
end Go.Proofs.Ytafolmgbmobfbaa
