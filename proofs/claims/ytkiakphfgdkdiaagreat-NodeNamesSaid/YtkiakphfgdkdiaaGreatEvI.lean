/-
  An evaluator for closed calls, part I: slices of slices, conversions, comparisons with nil.
-/
import Derived.Test.YtkiakphfgdkdiaaGreatEvH
import Derived.Laws.BytesString
namespace Go.Proofs.YtkiakphfgdkdiaaGreat
open Go Go.RowKit
set_option linter.unusedVariables false

section
variable {P : Program} {N0 : Nat} {w0 : World} {σ : Ren} {w : World}

theorem mSize_ok {n : Nat} {s s' : HS} {p : Nat × TypeId} (h : mSize n s = some (p, s')) : s'.h = s.h ∧ ∃ c, s.h.get n = some (.cells c p.2) ∧ p.1 = c.length := by
  unfold mSize at h
  obtain ⟨hh, nn, ll⟩ := s
  dsimp only at h
  split at h
  · rename_i c e' hg
    cases h
    exact ⟨rfl, c, hg, rfl⟩
  · cases h

/-- A bound that is there, or not. -/
inductive BR : Option Nat → Option Value → Prop
  | none : BR none none
  | some (k : IntKind) (n : Nat) : BR (some n) (some (.int k (n : Int)))

theorem FrR.bound {fr : Fr} {a : Act} (r : FrR σ fr a) {x : Option Operand} {b : Option Nat} (h : boundOf fr x = some b) : BR b (x.map a.eval) := by
  unfold boundOf at h
  cases x with
  | none => cases h; exact .none
  | some x =>
    dsimp only at h
    cases hv : fr.val x with
    | none => rw [hv] at h; cases h
    | some v =>
      rw [hv] at h
      dsimp only at h
      cases hn : natOf v with
      | none => rw [hn] at h; cases h
      | some n =>
        rw [hn] at h
        cases h
        obtain ⟨k, hk⟩ := (r.val hv).natOf hn
        show BR (some n) (some (a.eval x))
        rw [hk]; exact .some k n

theorem sliceBound_run (k : IntKind) (i y : Nat) (code : BoundsCode) (h : i ≤ y) : (Instr.sliceBound (.int k (i : Int)) y code).run P w = .ok i w := by
  have h2 : (i : Int) ≤ (y : Int) := by omega
  simp [Instr.sliceBound, asIntOf, h2]

theorem bounds_run {isS : Bool} {lo hi mx : Option Nat} {lo' hi' mx' : Option Value} (hl : BR lo lo') (hh : BR hi hi') (hm : BR mx mx') (len cap : Nat) (h1 : ∀ m, mx = some m → m ≤ cap)
    (h2 : ∀ h, hi = some h → h ≤ mx.getD cap) (h3 : lo.getD 0 ≤ hi.getD len) (h4 : mx.isSome = true → hi.isSome = true) :
    (Instr.sliceBounds isS len cap lo' hi' mx').run P w = .ok (lo.getD 0, hi.getD len, mx.getD cap) w := by
  unfold Instr.sliceBounds
  cases hm with
  | none =>
    cases hh with
    | none =>
      cases hl with
      | none => simp
      | some k n => simp [sliceBound_run k n len _ h3]
    | some k2 n2 =>
      have h5 : n2 ≤ cap := h2 n2 rfl
      cases hl with
      | none => simp [sliceBound_run k2 n2 cap _ h5]
      | some k n => simp [sliceBound_run k2 n2 cap _ h5, sliceBound_run k n n2 _ h3]
  | some k1 n1 =>
    have h6 : n1 ≤ cap := h1 n1 rfl
    cases hh with
    | none => have := h4 rfl; cases this
    | some k2 n2 =>
      have h5 : n2 ≤ n1 := h2 n2 rfl
      cases hl with
      | none => simp [sliceBound_run k1 n1 cap _ h6, sliceBound_run k2 n2 n1 _ h5]
      | some k n => simp [sliceBound_run k1 n1 cap _ h6, sliceBound_run k2 n2 n1 _ h5, sliceBound_run k n n2 _ h3]

theorem opPure_ok {fr : Fr} {a : Act} (r : FrR σ fr a) {o : Oper} {v : Value} (hs : ∀ cs b, o.op ≠ .select cs b) (h : opPure P fr o = some v) (w : World) :
    (execOp a.eval o).run P w = .ok (.value v) w ∧ VR σ v v := by
  unfold opPure at h
  cases hp : plainAll fr o.op.operands.toList with
  | false => rw [hp] at h; cases h
  | true =>
    rw [hp] at h
    dsimp only at h
    have all : ∀ l, plainAll fr l = true → ∀ x ∈ l, plainD 8 (fr.raw x) = true := by
      intro l
      induction l with
      | nil => intro _ x hx; cases hx
      | cons y l ih =>
        intro h x hx
        unfold plainAll at h
        cases hy : plainD 8 (fr.raw y) with
        | false => rw [hy] at h; cases h
        | true =>
          rw [hy] at h
          rcases List.mem_cons.1 hx with rfl | hx
          · exact hy
          · exact ih h x hx
    have e : execOp a.eval o = execOp fr.raw o := execOp_congr o hs fun x hx => r.plain_eval (all _ hp x (by simpa using hx))
    rw [e]
    cases hr : pureRun P (execOp fr.raw o) with
    | none => rw [hr] at h; cases h
    | some nx =>
      rw [hr] at h
      cases nx <;> try (cases h; done)
      rename_i u
      dsimp only at h
      cases hu : plainD 8 u with
      | false => rw [hu] at h; cases h
      | true =>
        rw [hu] at h
        cases h
        exact ⟨pureRun_run _ _ hr w, plain_self σ hu⟩

theorem slice_sim {fr : Fr} {a : Act} (rf : FrR σ fr a) {o : Oper} {t : TypeId} {x : Operand} {lo hi mx : Option Operand} (ho : o.op = .slice t x lo hi mx) {v v' : Value} (r : VR σ v v') (hv : v' = a.eval x) :
    Sim P N0 w0 σ (sliceM P fr o t v lo hi mx) (Instr.sliceAt t v' (lo.map a.eval) (hi.map a.eval) (mx.map a.eval)) := by
  intro s q s' w h W
  unfold sliceM at h
  cases hd : pureRun P (underlying t) with
  | none =>
    rw [hd] at h
    obtain ⟨u, hu, e⟩ := M.ofO_some h
    cases e
    obtain ⟨h1, h2⟩ := opPure_ok (P := P) rf (fun cs b => by rw [ho]; intro e; cases e) hu w
    refine ⟨σ, q, w, σ.le_refl, ?_, h2, W⟩
    simp only [execOp, ho, Sem.run_bind] at h1
    rw [← hv] at h1
    cases hr : (Instr.sliceAt t v' (lo.map a.eval) (hi.map a.eval) (mx.map a.eval)).run P w with
    | ok y w1 => rw [hr] at h1; simp at h1; rw [h1.1, h1.2]
    | halt y w1 => rw [hr] at h1; simp at h1
  | some d =>
    rw [hd] at h
    by_cases hcase : (∃ e, d = .slice e) ∨ ∃ n e, d = .array n e
    case neg =>
      have h : M.ofO (opPure P fr o) s = some (q, s') := by
        cases d <;> first | exact h | exact absurd (.inl ⟨_, rfl⟩) hcase | exact absurd (.inr ⟨_, _, rfl⟩) hcase
      obtain ⟨u, hu, e⟩ := M.ofO_some h
      cases e
      obtain ⟨h1, h2⟩ := opPure_ok (P := P) rf (fun cs b => by rw [ho]; intro e; cases e) hu w
      refine ⟨σ, q, w, σ.le_refl, ?_, h2, W⟩
      simp only [execOp, ho, Sem.run_bind] at h1
      rw [← hv] at h1
      cases hr : (Instr.sliceAt t v' (lo.map a.eval) (hi.map a.eval) (mx.map a.eval)).run P w with
      | ok y w1 => rw [hr] at h1; simp at h1; rw [h1.1, h1.2]
      | halt y w1 => rw [hr] at h1; simp at h1
    case pos =>
    rcases hcase with ⟨elem, rfl⟩ | ⟨n, elem, rfl⟩
    · -- a slice
      dsimp only at h
      cases hl : boundOf fr lo with
      | none => rw [hl] at h; cases h
      | some l =>
      rw [hl] at h
      cases hh : boundOf fr hi with
      | none => rw [hh] at h; cases h
      | some hi' =>
      rw [hh] at h
      cases hm : boundOf fr mx with
      | none => rw [hm] at h; cases h
      | some m =>
      rw [hm] at h
      cases hk : pureRun P (sizeOf elem) with
      | none => rw [hk] at h; cases h
      | some k0 =>
      rw [hk] at h
      cases k0 with
      | zero => cases h
      | succ k' =>
      dsimp only at h
      have bl := rf.bound hl
      have bh := rf.bound hh
      have bm := rf.bound hm
      have hu := unit_of_size hk
      have hk0 : 0 < k' + 1 := Nat.succ_pos _
      generalize k' + 1 = k at h hk hu hk0
      have run : ∀ (aa : Option Addr) (len cap : Nat), (∀ m', m = some m' → m' ≤ cap) → (∀ h, hi' = some h → h ≤ m.getD cap) → l.getD 0 ≤ hi'.getD len → (m.isSome = true → hi'.isSome = true) →
          (Instr.sliceAt t (.slice aa len cap) (lo.map a.eval) (hi.map a.eval) (mx.map a.eval)).run P w =
            .ok (.slice (if m.getD cap = l.getD 0 then aa else aa.map (·.add (l.getD 0 * k))) (hi'.getD len - l.getD 0) (m.getD cap - l.getD 0)) w := by
        intro aa len cap c1 c2 c3 c4
        simp only [Instr.sliceAt, Instr.slice, Sem.run_bind, pureRun_run _ _ hd, Result.andThen_ok, bounds_run bl bh bm len cap c1 c2 c3 c4, pureRun_run _ _ hk, Sem.run_pure]
      cases r with
      | nils len cap =>
        cases len with
        | succ len => cases h
        | zero =>
        cases cap with
        | succ cap => cases h
        | zero =>
        cases hb : (Nat.beq (l.getD 0) 0 && Nat.beq (hi'.getD 0) 0 && Nat.beq (m.getD 0) 0 && (m.isNone || hi'.isSome)) with
        | false => rw [hb] at h; cases h
        | true =>
          rw [hb] at h
          cases M.pure_some h
          simp only [Bool.and_eq_true] at hb
          obtain ⟨⟨⟨b1, b2⟩, b3⟩, b4⟩ := hb
          have b1 := Nat.eq_of_beq_eq_true b1
          have b2 := Nat.eq_of_beq_eq_true b2
          have b3 := Nat.eq_of_beq_eq_true b3
          refine ⟨σ, .slice none 0 0, w, σ.le_refl, ?_, .nils 0 0, W⟩
          rw [run none 0 0 (fun m' e => by rw [e] at b3; simp at b3; omega) (fun h' e => by rw [e] at b2; simp at b2; omega) (by omega) (fun e => by
            cases m with
            | none => cases e
            | some m => cases hi' with
              | none => simp at b4
              | some _ => rfl)]
          rw [b1, b2, b3]
          simp
      | sl b off len cap L hL hcS =>
        dsimp only at h
        cases h1 : Nat.ble (l.getD 0) (hi'.getD len) with
        | false => rw [h1] at h; cases h
        | true =>
        rw [h1] at h
        simp only [cond_true] at h
        have h1 := Nat.le_of_ble_eq_true h1
        cases hs : Nat.beq cap SENT with
        | true => exact absurd (Nat.eq_of_beq_eq_true hs) hcS
        | false =>
        rw [hs] at h
        simp only [cond_false] at h
        have fin : ∀ c' : Nat, (∀ m', m = some m' → m' ≤ cap) → (∀ h, hi' = some h → h ≤ m.getD cap) → (m.isSome = true → hi'.isSome = true) → m.getD cap = c' → c' < SENT →
            q = .slice (some ⟨b, cond (Nat.beq c' (l.getD 0)) off (off + l.getD 0 * k), none⟩) (hi'.getD len - l.getD 0) (c' - l.getD 0) → s' = s →
            ∃ τ v' w', σ.le τ ∧ (Instr.sliceAt t (.slice (some ⟨L.b, L.s + off, none⟩) len cap) (lo.map a.eval) (hi.map a.eval) (mx.map a.eval)).run P w = .ok v' w' ∧ VR τ q v' ∧ WR P N0 w0 τ s'.h.get w' := by
          intro c' c1 c2 c4 e5 c6 eq es
          subst eq; subst es
          refine ⟨σ, _, w, σ.le_refl, run _ _ _ c1 c2 h1 c4, ?_, W⟩
          rw [e5]
          by_cases hz : c' = l.getD 0
          · rw [if_pos hz, beq_true hz]
            exact .sl b off _ _ L hL (by omega)
          · rw [if_neg hz, beq_false hz]
            simp only [Option.map_some, add_at, Nat.add_assoc]
            exact .sl b (off + l.getD 0 * k) _ _ L hL (by omega)
        cases m with
        | some m =>
          dsimp only at h
          cases hb : (Nat.ble (hi'.getD len) m && Nat.ble m cap && hi'.isSome && Nat.blt m SENT) with
          | false => rw [hb] at h; cases h
          | true =>
            rw [hb] at h
            simp only [Bool.and_eq_true] at hb
            obtain ⟨⟨⟨b1, b2⟩, b3⟩, b4⟩ := hb
            have b1 := Nat.le_of_ble_eq_true b1
            have b2 := Nat.le_of_ble_eq_true b2
            have b4 : m < SENT := Nat.le_of_ble_eq_true b4
            cases M.pure_some h
            exact fin m (fun m' e => by cases e; exact b2) (fun h e => by rw [e] at b1; exact b1) (fun _ => b3) rfl b4 rfl rfl
        | none =>
          dsimp only at h
          cases hb : (Nat.ble (hi'.getD len) cap && Nat.blt cap SENT) with
          | false => rw [hb] at h; cases h
          | true =>
            rw [hb] at h
            simp only [Bool.and_eq_true] at hb
            obtain ⟨b1, b4⟩ := hb
            have b1 := Nat.le_of_ble_eq_true b1
            have b4 : cap < SENT := Nat.le_of_ble_eq_true b4
            cases M.pure_some h
            exact fin cap (fun m' e => by cases e) (fun h e => by rw [e] at b1; exact b1) (fun e => by cases e) rfl b4 rfl rfl
      | opn b off len cap L hL hlc hz =>
        dsimp only at h
        cases h1 : Nat.ble (l.getD 0) (hi'.getD len) with
        | false => rw [h1] at h; cases h
        | true =>
        rw [h1] at h
        simp only [cond_true] at h
        have h1 := Nat.le_of_ble_eq_true h1
        have hs : Nat.beq SENT SENT = true := rfl
        rw [hs] at h
        simp only [cond_true] at h
        obtain ⟨⟨sz, e⟩, s2, h2, hh2⟩ := M.bind_some h
        clear h
        have h := hh2
        clear hh2
        dsimp only at h
        obtain ⟨e2, c, hc, hsz⟩ := mSize_ok h2
        dsimp only at hc hsz
        subst hsz
        have W2 : WR P N0 w0 σ s2.h.get w := by rw [e2]; exact W
        cases hb : (Nat.beq e elem && (Nat.ble (hi'.getD len) len || Nat.ble (off + hi'.getD len * k) c.length)) with
        | false => rw [hb] at h; cases h
        | true =>
        rw [hb] at h
        simp only [cond_true] at h
        simp only [Bool.and_eq_true, Bool.or_eq_true] at hb
        obtain ⟨b1, b2⟩ := hb
        have b1 := Nat.eq_of_beq_eq_true b1
        subst b1
        obtain ⟨hN, o', ho', hor⟩ := W.at hc (by intro e; cases e) hL
        cases o' with
        | cells c' ee fz =>
          obtain ⟨k1, k2, k3, k4, k5⟩ := hor
          have hLu : L.u = k := k5 k hu
          rw [hLu] at hz
          have fits : ∀ n, (Nat.ble n len = true ∨ Nat.ble (off + n * k) c.length = true) → n ≤ cap := by
            intro n hn
            rcases hn with hn | hn
            · exact Nat.le_trans (Nat.le_of_ble_eq_true hn) hlc
            · have := Nat.le_of_ble_eq_true hn
              have h5 : n * k ≤ cap * k := by omega
              exact Nat.le_of_mul_le_mul_right h5 hk0
          have hcap := fits _ b2
          cases m with
          | some m =>
            dsimp only at h
            cases hb : (Nat.ble (hi'.getD len) m && (Nat.ble m len || Nat.ble (off + m * k) c.length) && hi'.isSome && Nat.blt m SENT) with
            | false => rw [hb] at h; cases h
            | true =>
              rw [hb] at h
              simp only [Bool.and_eq_true, Bool.or_eq_true] at hb
              obtain ⟨⟨⟨d1, d2⟩, d3⟩, d4⟩ := hb
              have d1 := Nat.le_of_ble_eq_true d1
              have d2 := fits _ d2
              have d4 : m < SENT := Nat.le_of_ble_eq_true d4
              cases M.pure_some h
              refine ⟨σ, _, w, σ.le_refl, run _ _ _ (fun m' e => by cases e; exact d2) (fun h e => by rw [e] at d1; exact d1) h1 (fun _ => d3), ?_, W2⟩
              simp only [Option.getD_some]
              by_cases hz : m = l.getD 0
              · rw [if_pos hz, beq_true hz]
                exact .sl b off _ _ L hL (by omega)
              · rw [if_neg hz, beq_false hz]
                simp only [Option.map_some, add_at, Nat.add_assoc]
                exact .sl b (off + l.getD 0 * k) _ _ L hL (by omega)
          | none =>
            dsimp only at h
            have hrun := run (some ⟨L.b, L.s + off, none⟩) len cap (fun m' e => by cases e) (fun h e => by rw [e] at hcap; exact hcap) h1 (fun e => by cases e)
            simp only [Option.getD_none] at hrun
            have hlc2 : l.getD 0 ≤ cap := Nat.le_trans h1 hcap
            cases hb : (Nat.beq (l.getD 0) 0 || Nat.blt (l.getD 0) (hi'.getD len) || Nat.blt (l.getD 0) len) with
            | true =>
              rw [hb] at h
              cases M.pure_some h
              refine ⟨σ, _, w, σ.le_refl, hrun, ?_, W2⟩
              have haddr : (if cap = l.getD 0 then some (⟨L.b, L.s + off, none⟩ : Addr) else (some (⟨L.b, L.s + off, none⟩ : Addr)).map (·.add (l.getD 0 * k))) = some ⟨L.b, L.s + (off + l.getD 0 * k), none⟩ := by
                by_cases hz : cap = l.getD 0
                · have : l.getD 0 = 0 := by
                    simp only [Bool.or_eq_true] at hb
                    rcases hb with (hb | hb) | hb
                    · exact Nat.eq_of_beq_eq_true hb
                    · have : l.getD 0 < hi'.getD len := Nat.le_of_ble_eq_true hb
                      omega
                    · have : l.getD 0 < len := Nat.le_of_ble_eq_true hb
                      omega
                  rw [if_pos hz, this]; simp
                · rw [if_neg hz]
                  simp only [Option.map_some, add_at, Nat.add_assoc]
              rw [haddr]
              refine .opn b (off + l.getD 0 * k) _ _ L hL (by omega) ?_
              rw [hLu, Nat.sub_mul, ← hz]
              have := Nat.mul_le_mul_right k hlc2
              omega
            | false =>
              rw [hb] at h
              simp only [cond_false] at h
              cases hb2 : Nat.beq (l.getD 0) (hi'.getD len) with
              | false => rw [hb2] at h; cases h
              | true =>
                rw [hb2] at h
                have hb2 := Nat.eq_of_beq_eq_true hb2
                cases M.pure_some h
                refine ⟨σ, _, w, σ.le_refl, hrun, ?_, W2⟩
                rw [show hi'.getD len - l.getD 0 = 0 by omega]
                by_cases hz : cap = l.getD 0
                · rw [if_pos hz]; exact .emp _ _
                · rw [if_neg hz]; exact .emp _ _
        | _ => exact hor.elim
      | _ => cases h
    · -- an array
      dsimp only at h
      cases hl : boundOf fr lo with
      | none => rw [hl] at h; cases h
      | some l =>
      rw [hl] at h
      cases hh : boundOf fr hi with
      | none => rw [hh] at h; cases h
      | some hi' =>
      rw [hh] at h
      cases mx with
      | some m => cases hk : pureRun P (sizeOf elem) <;> (rw [hk] at h; cases h)
      | none =>
      cases hk : pureRun P (sizeOf elem) with
      | none => rw [hk] at h; cases h
      | some k =>
      rw [hk] at h
      cases r with
      | ptr b off L hL =>
        dsimp only at h
        have bl := rf.bound hl
        have bh := rf.bound hh
        cases hb : (Nat.ble (l.getD 0) (hi'.getD n) && Nat.ble (hi'.getD n) n && Nat.blt n SENT) with
        | false => rw [hb] at h; cases h
        | true =>
          rw [hb] at h
          simp only [Bool.and_eq_true] at hb
          obtain ⟨⟨b1, b2⟩, b3⟩ := hb
          have b1 := Nat.le_of_ble_eq_true b1
          have b2 := Nat.le_of_ble_eq_true b2
          have b3 : n < SENT := Nat.le_of_ble_eq_true b3
          cases M.pure_some h
          refine ⟨σ, .slice (some (if n = l.getD 0 then ⟨L.b, L.s + off, none⟩ else (⟨L.b, L.s + off, none⟩ : Addr).add (l.getD 0 * k))) (hi'.getD n - l.getD 0) (n - l.getD 0), w, σ.le_refl, ?_, ?_, W⟩
          · simp only [Instr.sliceAt, Sem.run_bind, pureRun_run _ _ hd, Result.andThen_ok, Instr.sureAddr, Sem.run_pure, Option.map_none,
              bounds_run bl bh BR.none n n (fun m e => by cases e) (fun h e => by rw [e] at b2; exact b2) b1 (fun e => by cases e), pureRun_run _ _ hk, Option.getD_none]
          · by_cases hz : n = l.getD 0
            · rw [if_pos hz, beq_true hz]
              exact .sl b off _ _ L hL (by omega)
            · rw [if_neg hz, beq_false hz]
              simp only [add_at, Nat.add_assoc]
              exact .sl b (off + l.getD 0 * k) _ _ L hL (by omega)
      | _ => cases h

end
end Go.Proofs.YtkiakphfgdkdiaaGreat
