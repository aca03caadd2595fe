/- The expressions' values: the program's Eval and the document's hand back the same number. -/
import Derived.Test.YtekmcoflagajkaaGreatDoorRows
import Derived.Test.YtekmcoflagajkaaGreatDoorBunM
import Derived.Deep.RegionHeld3
namespace Go.Proofs.YtekmcoflagajkaaGreatDoor
open Go.RowKit

/-- What an operator makes of two numbers; 0 where there is no such operator. -/
def opv (o a b : Int) : Int :=
  if o = 43 then wrap64 (a + b) else if o = 45 then wrap64 (a - b) else if o = 42 then wrap64 (a * b) else if o = 38 then bits .and .i64 a b else if o = 124 then bits .or .i64 a b
  else if o = 60 then (if a < b then 1 else 0) else if o = 61 then (if a = b then 1 else 0) else if o = 33 then (if a = b then 0 else 1) else 0

/-- What an expression is, of registers and a domain. -/
def Ex.ev (r0 r1 r2 r3 d : Int) : Ex → Int
  | mk k n o l => if k = 1 then n else if k = 2 then (if 0 ≤ n ∧ n < 4 then (if n = 0 then r0 else if n = 1 then r1 else if n = 2 then r2 else r3) else 0)
    else if k = 3 then (match l with
      | [x, y] => if d < 1 then 0 else opv o (x.ev r0 r1 r2 r3 d) (y.ev r0 r1 r2 r3 d) % d
      | _ => 0) else 0
termination_by x => SizeOf.sizeOf x

section
variable (r0 r1 r2 r3 d : Int)
theorem Ex.ev_eq (k n o : Int) (l : List Ex) : Ex.ev r0 r1 r2 r3 d (mk k n o l) = if k = 1 then n else if k = 2 then (if 0 ≤ n ∧ n < 4 then (if n = 0 then r0 else if n = 1 then r1 else if n = 2 then r2 else r3) else 0)
    else if k = 3 then (match l with
      | [x, y] => if d < 1 then 0 else opv o (x.ev r0 r1 r2 r3 d) (y.ev r0 r1 r2 r3 d) % d
      | _ => 0) else 0 := by
  match l with
  | [] | [_] | [_, _] | _ :: _ :: _ :: _ => conv => lhs; unfold Ex.ev

theorem Ex.ev_num (n o : Int) (l : List Ex) : Ex.ev r0 r1 r2 r3 d (mk 1 n o l) = n := by rw [Ex.ev_eq]; rfl
theorem Ex.ev_reg (n o : Int) (l : List Ex) : Ex.ev r0 r1 r2 r3 d (mk 2 n o l) = if 0 ≤ n ∧ n < 4 then (if n = 0 then r0 else if n = 1 then r1 else if n = 2 then r2 else r3) else 0 := by rw [Ex.ev_eq]; rfl
theorem Ex.ev_two (n o : Int) (x y : Ex) : Ex.ev r0 r1 r2 r3 d (mk 3 n o [x, y]) = if d < 1 then 0 else opv o (x.ev r0 r1 r2 r3 d) (y.ev r0 r1 r2 r3 d) % d := by rw [Ex.ev_eq]; rfl
theorem Ex.ev_other (k n o : Int) (l : List Ex) (h1 : k ≠ 1) (h2 : k ≠ 2) (h3 : k ≠ 3 ∨ l.length ≠ 2) : Ex.ev r0 r1 r2 r3 d (mk k n o l) = 0 := by
  rw [Ex.ev_eq, if_neg h1, if_neg h2]
  split
  · match l with
    | [] | [_] | _ :: _ :: _ :: _ => rfl
    | [_, _] => simp_all
  · rfl
end




theorem fin_mod (n d : Int) (h1 : 1 ≤ d) (h2 : d ≤ 4611686018427387904) : (wrap64 (n.tmod d + d)).tmod d = n % d := by
  have ha : n.tmod d < d := Int.tmod_lt_of_pos _ (by omega)
  have hb : -d < n.tmod d := by
    have := Int.lt_tmod_of_pos n (show 0 < d by omega); omega
  rw [IntWalk.wrap64_in _ ⟨by omega, by omega⟩]
  rw [Int.tmod_eq_emod_of_nonneg (by omega), Int.add_emod_right]
  have e := Int.mul_tdiv_add_tmod n d
  conv => rhs; rw [← e]
  rw [Int.mul_add_emod_self_left]

theorem fin_emod (n d : Int) (h1 : 1 ≤ d) (h2 : d ≤ 4611686018427387904) : (wrap64 (n % d + d)).tmod d = n % d := by
  have ha := Int.emod_lt_of_pos n (show 0 < d by omega)
  have hb := Int.emod_nonneg n (show d ≠ 0 by omega)
  rw [IntWalk.wrap64_in _ ⟨by omega, by omega⟩, Int.tmod_eq_emod_of_nonneg (by omega), Int.add_emod_right, Int.emod_emod]

theorem ops_cases (o : Int) : o = 43 ∨ o = 45 ∨ o = 42 ∨ o = 38 ∨ o = 124 ∨ o = 60 ∨ o = 61 ∨ o = 33 ∨
    ((o == 43) = false ∧ (o == 45) = false ∧ (o == 42) = false ∧ (o == 38) = false ∧ (o == 124) = false ∧ (o == 60) = false ∧ (o == 61) = false ∧ (o == 33) = false) := by
  simp only [beq_eq_false_iff_ne]; omega

theorem opv_none {o : Int} (h : (o == 43) = false ∧ (o == 45) = false ∧ (o == 42) = false ∧ (o == 38) = false ∧ (o == 124) = false ∧ (o == 60) = false ∧ (o == 61) = false ∧ (o == 33) = false) (a b : Int) : opv o a b = 0 := by
  simp only [beq_eq_false_iff_ne] at h
  obtain ⟨h1, h2, h3, h4, h5, h6, h7, h8⟩ := h
  simp [opv, h1, h2, h3, h4, h5, h6, h7, h8]

set_option maxHeartbeats 1000000 in
theorem ref_eval (r0 r1 r2 r3 d : Int) (d63 : d ≤ 4611686018427387904) (x : Ex) : ∀ (cs : List Value) (w : World), ExIn w (In_ w) cs x →
    Calls Tryz.prog 56 #[.agg cs.toArray, .agg #[.int .i64 r0, .int .i64 r1, .int .i64 r2, .int .i64 r3], .int .i64 d] w fun e w' => e = .returned (.int .i64 (x.ev r0 r1 r2 r3 d)) ∧ Below w.heap.size w w' := by
  induction x using Ex.ind with
  | h k n o l ih =>
  intro cs w hin
  obtain ⟨a, cap, rfl, hl, hc, wk, wn, wo, hk⟩ := hin.open_
  have hfb : Below w.heap.size w ((w.alloc (.cells #[.int .i64 k, .int .i64 n, .int .u8 o, .slice a l.length cap] 100)).alloc (.cells #[.int .i64 r0, .int .i64 r1, .int .i64 r2, .int .i64 r3] 61)) := ((Below.refl _ _).alloc (Nat.le_refl _) _).alloc (by simp) _
  by_cases k1 : k = 1
  · subst k1
    go_enter Tryz.func56, Tryz.ntmps56
    go_wp2_with fail
    go_ret
    exact ⟨ret_int (by rw [Ex.ev_num]), hfb⟩
  by_cases k2 : k = 2
  · subst k2
    by_cases hn : 0 ≤ n ∧ n < 4
    · obtain ⟨n0, n4⟩ := hn
      have h4 : n = 0 ∨ n = 1 ∨ n = 2 ∨ n = 3 := by omega
      rcases h4 with rfl | rfl | rfl | rfl
      all_goals
        go_enter Tryz.func56, Tryz.ntmps56
        go_wp2_with fail
        go_ret
        exact ⟨ret_int (by rw [Ex.ev_reg]; rfl), hfb⟩
    · have hn' : n < 0 ∨ 4 ≤ n := by omega
      rcases hn' with hn' | hn'
      all_goals
        go_enter Tryz.func56, Tryz.ntmps56
        go_wp2_with fail
        go_ret
        exact ⟨ret_int (by rw [Ex.ev_reg, if_neg (by omega)]), hfb⟩
  have b1 : (k == 1) = false := by simpa using k1
  have b2 : (k == 2) = false := by simpa using k2
  by_cases k3 : k = 3
  · subst k3
    rcases l with _ | ⟨x0, _ | ⟨x1, _ | ⟨x2, l'⟩⟩⟩
    case cons.cons.nil =>
      obtain ⟨b, off, u0, u1, u2, u3, v0, v1, v2, v3, rfl, hb0, c00, c01, c02, c03, c10, c11, c12, c13, hx0, hx1⟩ := ExIn.pair hk
      have hb := hb0.lt
      have ih0 := ih x0 (by simp)
      have ih1 := ih x1 (by simp)
      clear hk ih
      have hev : Ex.ev r0 r1 r2 r3 d (.mk 3 n o [x0, x1]) = if d < 1 then 0 else opv o (x0.ev r0 r1 r2 r3 d) (x1.ev r0 r1 r2 r3 d) % d := Ex.ev_two ..
      generalize Ex.ev r0 r1 r2 r3 d x0 = A at *
      generalize Ex.ev r0 r1 r2 r3 d x1 = C at *
      have Hev := hid hev
      clear hev
      simp only [List.length_cons, List.length_nil, Nat.zero_add] at hl hfb
      rw [← hfb.cell (p := ⟨b, _, none⟩) hb] at c00 c01 c02 c03 c10 c11 c12 c13
      have hX0 := (Kp.of hfb).ex hx0
      have hX1 := (Kp.of hfb).ex hx1
      go_enter Tryz.func56, Tryz.ntmps56
      go_wp2_with fail
      clear hx0 hx1
      have HB := hid hfb
      clear hfb
      generalize hW : World.alloc (World.alloc w _) _ = W0 at *
      have hzW : w.heap.size + 1 < W0.heap.size := by subst hW; simp
      have hzW0 : w.heap.size < W0.heap.size := by omega
      have d0 : W0.cell? ⟨w.heap.size, 3, none⟩ = some (.slice (some ⟨b, off, none⟩) 2 cap) := by subst hW; go_simp
      have d2 : W0.cell? ⟨w.heap.size, 2, none⟩ = some (.int .u8 o) := by subst hW; go_simp
      have e0 : W0.cell? ⟨w.heap.size + 1, 0, none⟩ = some (.int .i64 r0) := by subst hW; go_simp
      have e1 : W0.cell? ⟨w.heap.size + 1, 1, none⟩ = some (.int .i64 r1) := by subst hW; go_simp
      have e2 : W0.cell? ⟨w.heap.size + 1, 2, none⟩ = some (.int .i64 r2) := by subst hW; go_simp
      have e3 : W0.cell? ⟨w.heap.size + 1, 3, none⟩ = some (.int .i64 r3) := by subst hW; go_simp
      clear hW
      have hbz : b < W0.heap.size := by omega
      go_region_held3 (Kp W0)
        (first | exact Kp.start _ | exact Kp.next (by assumption) hb1)
        (first
          | (go_at_call 56; (with_reducible refine (ih0 _ _ ?_).mono ?_); (focus exact Kp.ex (by assumption) hX0); rintro e w1 ⟨rfl, hb1⟩)
          | (go_at_call 56; (with_reducible refine (ih1 _ _ ?_).mono ?_); (focus exact Kp.ex (by assumption) hX1); rintro e w1 ⟨rfl, hb1⟩))
      rename_i hKp
      have hend := HB.out.trans (hKp.1.mono HB.out.size)
      have d2' := (hKp.2 _ _ hzW0).trans d2
      clear hb1 ih0 ih1 hX0 hX1 c00 c01 c02 c03 c10 c11 c12 c13 d0 d2 e0 e1 e2 e3
      have hend' := hid hend
      clear hend hKp
      by_cases dpos : d < 1
      · go_wp2
        all_goals
          go_ret
          exact ⟨ret_int (by rw [Hev.out, if_pos dpos]), hend'.out⟩
      · have dpos' : 1 ≤ d := by omega
        clear dpos
        have Hev' : Hid (Ex.ev r0 r1 r2 r3 d (.mk 3 n o [x0, x1]) = opv o A C % d) := by rw [Hev.out, if_neg (by omega)]; exact rfl
        clear Hev
        rcases ops_cases o with rfl | rfl | rfl | rfl | rfl | rfl | rfl | rfl | hno
        · go_wp2
          go_ret
          exact ⟨ret_int (by rw [Hev'.out, ← fin_mod _ _ dpos' d63]; rfl), hend'.out⟩
        · go_wp2
          go_ret
          exact ⟨ret_int (by rw [Hev'.out, ← fin_mod _ _ dpos' d63]; rfl), hend'.out⟩
        · go_wp2
          go_ret
          exact ⟨ret_int (by rw [Hev'.out, ← fin_mod _ _ dpos' d63]; rfl), hend'.out⟩
        · go_wp2
          go_ret
          exact ⟨ret_int (by rw [Hev'.out, ← fin_mod _ _ dpos' d63]; rfl), hend'.out⟩
        · go_wp2
          go_ret
          exact ⟨ret_int (by rw [Hev'.out, ← fin_mod _ _ dpos' d63]; rfl), hend'.out⟩
        · by_cases hlt : A < C
          · go_wp2
            go_ret
            exact ⟨ret_int (by rw [Hev'.out, show opv 60 A C = 1 from by simp [opv, hlt]]; first | exact fin_mod _ _ dpos' d63 | exact fin_emod _ _ dpos' d63), hend'.out⟩
          · go_wp2
            go_ret
            exact ⟨ret_int (by rw [Hev'.out, show opv 60 A C = 0 from by simp [opv, hlt]]; first | exact fin_mod _ _ dpos' d63 | simp), hend'.out⟩
        · by_cases hlt : A = C
          · subst hlt
            go_wp2
            go_ret
            exact ⟨ret_int (by rw [Hev'.out, show opv 61 A A = 1 from by simp [opv]]; first | exact fin_mod _ _ dpos' d63 | exact fin_emod _ _ dpos' d63), hend'.out⟩
          · have hb' : (A == C) = false := by simpa using hlt
            go_wp2
            go_ret
            exact ⟨ret_int (by rw [Hev'.out, show opv 61 A C = 0 from by simp [opv, hlt]]; first | exact fin_mod _ _ dpos' d63 | simp), hend'.out⟩
        · by_cases hlt : A = C
          · subst hlt
            go_wp2
            go_ret
            exact ⟨ret_int (by rw [Hev'.out, show opv 33 A A = 0 from by simp [opv]]; first | exact fin_mod _ _ dpos' d63 | simp), hend'.out⟩
          · have hb' : (A != C) = true := by simpa using hlt
            go_wp2
            go_ret
            exact ⟨ret_int (by rw [Hev'.out, show opv 33 A C = 1 from by simp [opv, hlt]]; first | exact fin_mod _ _ dpos' d63 | exact fin_emod _ _ dpos' d63), hend'.out⟩
        · have Hno := hid hno
          obtain ⟨m1, m2, m3, m4, m5, m6, m7, m8⟩ := hno
          go_wp2
          go_ret
          exact ⟨ret_int (by rw [Hev'.out, opv_none Hno.out]; first | exact fin_mod _ _ dpos' d63 | simp), hend'.out⟩
    case nil =>
      go_enter Tryz.func56, Tryz.ntmps56
      go_wp2_with fail
      go_ret
      exact ⟨ret_int (by rw [Ex.ev_other _ _ _ _ _ _ _ _ _ (by omega) (by omega) (.inr (by simp))]), hfb⟩
    case cons.nil =>
      go_enter Tryz.func56, Tryz.ntmps56
      go_wp2_with fail
      go_ret
      exact ⟨ret_int (by rw [Ex.ev_other _ _ _ _ _ _ _ _ _ (by omega) (by omega) (.inr (by simp))]), hfb⟩
    case cons.cons.cons =>
      have hl2 : ((((l'.length + 1 + 1 + 1 : Nat)) : Int) != 2) = true := by rw [bne_iff_ne]; omega
      go_enter Tryz.func56, Tryz.ntmps56
      go_wp2_with fail
      go_ret
      exact ⟨ret_int (by rw [Ex.ev_other _ _ _ _ _ _ _ _ _ (by omega) (by omega) (.inr (by simp))]), hfb⟩
  · have b3 : (k != 3) = true := by rw [bne_iff_ne]; exact k3
    go_enter Tryz.func56, Tryz.ntmps56
    go_wp2_with fail
    go_ret
    exact ⟨ret_int (by rw [Ex.ev_other _ _ _ _ _ _ _ _ _ k1 k2 (.inl k3)]), hfb⟩


/-- Function f is entered when it is called. -/
def Ent (f : Nat) : Prop := ∀ (args : Array Value) (w : World), (callFunc f args).run Tryz.prog w = .ok (.enter f args) w
/-- F is what there is of operator o, in every world that keeps what is in W. -/
def OpF (W : World) (o : Int) (F : Value) : Prop :=
  (F = .nilFunc ∧ ∀ a b, opv o a b = 0) ∨
  ∃ f cap, F = .func (.func f) #[] cap ∧ Ent f ∧ ∀ (a b : Int) (W' : World), Kp W W' → Calls Tryz.prog f (#[.int .i64 a, .int .i64 b] ++ cap) W' fun e w' => e = .returned (.int .i64 (opv o a b)) ∧ Below W'.heap.size W' w'

section
variable (a b : Int) (w : World)
end

theorem OpF.keep {W W' : World} {o : Int} {F : Value} (h : OpF W o F) (hk : Kp W W') : OpF W' o F := by
  rcases h with h | ⟨f, cap, rfl, he, hc⟩
  · exact .inl h
  · exact .inr ⟨f, cap, rfl, he, fun a b W'' hk' => hc a b W'' (.of (hk.1.trans (hk'.1.mono hk.1.size)))⟩

theorem fin_val (n d : Int) (h1 : 1 ≤ d) : (if n.tmod d < 0 then n.tmod d + d else n.tmod d) = n % d := by
  have ha : n.tmod d < d := Int.tmod_lt_of_pos _ (by omega)
  have hb : -d < n.tmod d := Int.lt_tmod_of_pos n (by omega)
  have e := Int.mul_tdiv_add_tmod n d
  split
  · have : n % d = (n.tmod d + d) % d := by rw [Int.add_emod_right]; conv => lhs; rw [← e, Int.mul_add_emod_self_left]
    rw [this, Int.emod_eq_of_lt (by omega) (by omega)]
  · have : n % d = (n.tmod d) % d := by conv => lhs; rw [← e, Int.mul_add_emod_self_left]
    rw [this, Int.emod_eq_of_lt (by omega) (by omega)]

/-- Some number is handed back; what was there is as it was. -/
def SomeInt (w : World) (e : Ending) (w' : World) : Prop := ∃ r : Int, e = .returned (.int .i64 r) ∧ Below w.heap.size w w'

end Go.Proofs.YtekmcoflagajkaaGreatDoor
