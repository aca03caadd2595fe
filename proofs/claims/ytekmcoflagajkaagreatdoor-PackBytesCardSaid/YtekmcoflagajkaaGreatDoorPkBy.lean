/- PackBytes, walked. -/
import Derived.Test.YtekmcoflagajkaaGreatDoorBunP
import Derived.Test.YtekmcoflagajkaaGreatDoorPkAw
import Derived.Test.YtekmcoflagajkaaGreatDoorBunV
namespace Go.Proofs.YtekmcoflagajkaaGreatDoor
open Go.RowKit

theorem strOfNums_bytL (s : ByteArray) : strOfNums (bytL s) = s := by
  obtain ⟨⟨l⟩⟩ := s
  have h2 : ∀ l : List UInt8, (l.map fun c => (c.toNat : Int)).map (fun x => UInt8.ofNat x.toNat) = l := by
    intro l
    rw [List.map_map]
    refine (List.map_congr_left fun x _ => ?_).trans (List.map_id _)
    simp
  unfold strOfNums bytL
  rw [h2]
theorem bytL_bytes (s : ByteArray) : BytesL (bytL s) := fun x hx => by
  unfold bytL at hx
  obtain ⟨c, -, rfl⟩ := List.mem_map.1 hx
  have := c.toNat_lt
  omega
/-- What is unpacked is packed to the same. -/
theorem unp_pack {vars dom m b : Int} {t : List (List Ins)} {s : ByteArray} {bad : Bool} {mem : List Int} {th : List Thr} (h : unpS vars dom t m b (bytL s) = ((bad, mem, th), 0)) :
    packS (fitsL vars dom t m b th mem) (packB th mem bad) = .tuple #[.string s, .int .i64 0] ∧ (∀ x ∈ th, x.buf.length ≤ 1000) ∧ th.length ≤ 1000 ∧ mem.length ≤ 1000 := by
  unfold unpS at h
  cases hm : mayL vars dom t m b with
  | false => rw [hm] at h; cases h
  | true =>
    rw [hm] at h
    simp only [if_true] at h
    cases hu : unpL vars.toNat t.length (bytL s) with
    | none => rw [hu] at h; cases h
    | some r =>
      obtain ⟨bad', mem', th'⟩ := r
      rw [hu] at h
      simp only at h
      cases hf : fitsL vars dom t m b th' mem' with
      | false => rw [hf] at h; cases h
      | true =>
        rw [hf] at h
        simp only [if_true, Prod.mk.injEq, and_true] at h
        obtain ⟨rfl, rfl, rfl⟩ := h
        obtain ⟨e1, e2, e3, e4⟩ := unpL_inv (bytL_bytes s) hu
        have hmf := may_facts hm
        rw [hf, e1]
        refine ⟨?_, fun x hx => by have := e2 x hx; omega, by omega, by omega⟩
        unfold packS
        rw [strOfNums_bytL]
        rfl

theorem machine_any (n : Nat) (w : World) : Calls Tryz.prog 8 #[.int .u8 n] w fun e w' => (∃ m b : Int, e = .returned (.agg #[.int .i64 m, .int .i64 b])) ∧ Below w.heap.size w w' := by
  go_enter Tryz.func8, Tryz.ntmps8
  go_wp2_with fail
  refine bodyPost_ret (v := .agg #[.int .i64 ((wrap64 (n : Int)).tmod 3), .int .i64 (wrap64 (1 + (wrap64 ((wrap64 (n : Int)).tdiv 3)).tmod 3))]) ?_ rfl ⟨⟨_, _, rfl⟩, (Below.refl _ _).alloc (Nat.le_refl _) _⟩
  simp [results, Tryz.results8, go_sem]

set_option maxRecDepth 100000 in
set_option maxHeartbeats 16000000 in
theorem packBytes_walk (la : Option Addr) (ln lc : Nat) (n : Nat) (s : ByteArray) (w : World) (hl : U8s w (In_ w) la ln lc) (_hn : n < 256) :
    Calls Tryz.prog 5 #[.slice la ln lc, .int .u8 n, .string s] w fun e w' => e = .returned (.bool true) ∧ Below w.heap.size w w' := by
  have Hl := hid hl
  clear hl
  go_enter Tryz.func5, Tryz.ntmps5
  go_wp2_with fail
  refine (awake_any w).mono ?_
  rintro e w1 ⟨rfl, hb1⟩
  have HK1 := hid (Kp.of hb1)
  clear hb1
  go_wp2_with fail
  refine (kinds_any w1).mono ?_
  rintro e w2 ⟨rfl, hK2, hb2⟩
  have HK2 := hid (HK1.out.next hb2)
  have hl2 : U8s w2 (In_ w2) la ln lc := (Hl.out.keep fun b o hb => HK2.out.2 b o hb).widen (In_.mono HK2.out.1.size)
  have hmade := hid (madeC_any w2 la ln lc _ 13 13 hl2 hK2)
  clear hl2 hK2 hb2 Hl HK1
  go_wp2_with fail
  refine hmade.out.mono ?_
  intro e w3 hp3
  obtain ⟨p, n0, v, rfl, hright, -, -, -, hT, hn0, hn1, hb3⟩ := hp3
  obtain ⟨ta, tc, hv, hTh⟩ := hT.ths
  subst hv
  have HK3 := hid (HK2.out.next hb3)
  have hTh3 : ThsIn w3 (In_ w3) ta (cmpT p.ths).length tc (cmpT p.ths) := hTh.widen fun b hb => by
    rcases hb with hb | hb
    · have hb' : b < n0 := hb
      show b < _; omega
    · exact hb.2
  have HT3 := hid hTh3
  have wv : (Lit.int .i64 (p.vars.length : Int)).wf = true := by
    unfold rightP at hright
    simp only [Bool.and_eq_true, decide_eq_true_eq] at hright
    exact WalkArith.wf_i64 (by omega)
  clear hT hTh hTh3 hb3 hmade HK2 hright hn0 hn1
  generalize cmpT p.ths = T at *
  generalize (p.vars.length : Int) = vars at *
  generalize p.dom = dom at *
  go_wp2_with fail
  refine (machine_any n w3).mono ?_
  rintro e w4 ⟨⟨m, b, rfl⟩, hb4⟩
  have HK4 := hid (HK3.out.next hb4)
  have HT4 := hid ((Kp.of hb4).ths HT3.out)
  clear hb4 HK3 HT3
  generalize hW : (w4.alloc (.cells #[.int .i64 vars, .int .i64 dom, .slice ta T.length tc] 25)).alloc (.cells #[.int .i64 m, .int .i64 b] 30) = W0
  have hB : Below w4.heap.size w4 W0 := by subst hW; exact ((Below.refl _ _).alloc (Nat.le_refl _) _).alloc (by simp) _
  have z0 : w4.heap.size < W0.heap.size := by subst hW; simp; omega
  have z1 : w4.heap.size + 1 < W0.heap.size := by subst hW; simp
  have c0 : W0.cell? ⟨w4.heap.size, 0, none⟩ = some (.int .i64 vars) := by subst hW; go_simp
  have c1 : W0.cell? ⟨w4.heap.size, 1, none⟩ = some (.int .i64 dom) := by subst hW; go_simp
  have c2 : W0.cell? ⟨w4.heap.size, 2, none⟩ = some (.slice ta T.length tc) := by subst hW; go_simp
  have m0 : W0.cell? ⟨w4.heap.size + 1, 0, none⟩ = some (.int .i64 m) := by subst hW; go_simp
  have m1 : W0.cell? ⟨w4.heap.size + 1, 1, none⟩ = some (.int .i64 b) := by subst hW; go_simp
  have HT0 := hid ((Kp.of hB).ths HT4.out)
  have HB := hid (HK4.out.next hB)
  have hWx := hid hW
  clear hW hB HT4 HK4
  go_upto_region 5 with fail
  rw [hWx.out]
  by_cases hs : (100 : Int) < s.size
  · go_wp2_with fail
    go_ret
    exact ⟨rfl, HB.out.1⟩
  go_wp2_with fail
  go_loopw [10, 11] (fun v i wr => ∃ (k : Nat) (L : List Int) (a1 : Option Addr) (n1 c1 : Nat), k ≤ s.size ∧ i = .int .i64 k ∧ v = .slice a1 n1 c1 ∧ Hid (L.length = k) ∧ Hid (wr.ownsRow W0.heap.size 5 1 (.slice a1 n1 c1) L.length (L.map (Value.int .u8))) ∧ Hid (k = 0 → Value.slice a1 n1 c1 = .slice none 0 0) ∧ Kp W0 wr) (fun _ i _ => s.size - (intOf i).toNat)
  case atStart => exact ⟨0, [], none, 0, 0, Nat.zero_le _, rfl, rfl, rfl, World.ownsRow_nil _ _ _ _, fun _ => rfl, Kp.refl _⟩
  case round =>
    obtain ⟨k, L, a1, n1, c3, hk, rfl, rfl, hL, hown, hz, hK⟩ := hrel
    by_cases hlt : k < s.size
    · have k0 : (0 : Int) ≤ k := by omega
      have k1 : (k : Int) < s.size := by omega
      have g0 := hK.1.size
      have hLk := hL.out
      clear hz
      go_wp2_with (first
        | (at_builtin
           refine list_by (base := W0.heap.size) (.tmp 36) (.tmp 41) (.slice a1 n1 c3) L.length (L.map (Value.int .u8)) 1 [.int .u8 ((s[k].toNat : Int) % 2)] ?_ ?_ ?_ ?_ ?_ ?_ ?_ ?_ ?_
           (focus rfl); (focus rfl); (focus rfl); (focus exact hown.out.alloc _); (focus (first | exact ⟨_, _, rfl, src_new rfl⟩ | exact ⟨_, _, rfl, src_at rfl rfl⟩)); (focus exact one_by); (focus omega); (focus (simp; omega))
           intro v2 w2 hown2 hg2 hat2
           have hk1 : Kp W0 w2 := Kp.grown (hK.alloc _) hg2 (fun k hk => (hown.out.lt k hk).1)
           obtain ⟨a2, n2, c4, rfl⟩ := own_slice hown2
           have hO2 := hid (OutIs.app (L := L) (news := [(s[k].toNat : Int) % 2]) hown2)
           have HK1 := hid hk1
           clear hown2 hg2 hat2 hk1)
        | fail)
      go_roundw
      case rel => exact ⟨k + 1, _, _, _, _, by omega, by simp, rfl, by simp [Hid, hLk], hO2.out.2, fun h => absurd h (by omega), HK1.out⟩
      case measure => simp [intOf]; omega
    · obtain rfl : k = s.size := by omega
      obtain ⟨s2, hcv, hs2⟩ : ∃ s2 : ByteArray, (convert 22 9 (.slice a1 n1 c3)).run Tryz.prog wr = .ok (.string s2) wr ∧ s2.size ≤ 100 := by
        by_cases h0 : 0 < L.length
        · exact ⟨_, conv_row hown.out h0, by rw [strOfNums_size, hL.out]; omega⟩
        · have e := hz.out (by rw [← hL.out]; omega)
          rw [e]
          exact ⟨⟨#[]⟩, rfl, by decide⟩
      have g0 := hK.1.size
      generalize hW5 : wr.alloc (.cells #[.string s, .string s2] 9) = W5
      have hB5 : Below wr.heap.size wr W5 := by subst hW5; exact (Below.refl _ _).alloc (Nat.le_refl _) _
      have d0 : W5.cell? ⟨wr.heap.size, 0, none⟩ = some (.string s) := by subst hW5; go_simp
      have d1 : W5.cell? ⟨wr.heap.size, 1, none⟩ = some (.string s2) := by subst hW5; go_simp
      have z5 : wr.heap.size < W5.heap.size := by subst hW5; simp
      have hK5 := hK.next hB5
      have y0 := (hK5.2 _ 0 z0).trans c0
      have y1 := (hK5.2 _ 1 z0).trans c1
      have y2 := (hK5.2 _ 2 z0).trans c2
      have y3 := (hK5.2 _ 0 z1).trans m0
      have y4 := (hK5.2 _ 1 z1).trans m1
      have z6 : w4.heap.size < W5.heap.size := by omega
      have z7 : w4.heap.size + 1 < W5.heap.size := by omega
      have HT5 := hid (hK5.ths HT0.out)
      have HK5 := hid hK5
      have hW5x := hid hW5
      have hel : ∀ r : Nat, r < 2 → ∃ t : ByteArray, W5.cell? ⟨wr.heap.size, r, none⟩ = some (.string t) ∧ t.size ≤ 100 := fun r hr => by
        have : r = 0 ∨ r = 1 := by omega
        rcases this with rfl | rfl
        · exact ⟨s, d0, by omega⟩
        · exact ⟨s2, d1, hs2⟩
      have Hel := hid hel
      clear hel hW5 hB5 hK5 hL hown hz hK d0 d1 hs2 c0 c1 c2 m0 m1 HT0
      go_upto_region 13 with fail
      rw [hW5x.out]
      clear hW5x
      generalize wr.heap.size = sb at *
      go_loopw [48] (fun i wr => ∃ r : Nat, r ≤ 2 ∧ i = .int .i64 r ∧ Kp W5 wr) (fun i _ => 2 - (intOf i).toNat)
      case atStart => exact ⟨0, by omega, rfl, Kp.refl _⟩
      case round =>
        obtain ⟨r, hr, rfl, hKx⟩ := hrel
        have g1 := hKx.1.size
        by_cases hr2 : r < 2
        · obtain ⟨t, ht, hts⟩ := Hel.out r hr2
          have r0 : (0 : Int) ≤ r := by omega
          have r1 : (r : Int) < 2 := by omega
          have g2 : sb < wr.heap.size := by omega
          have g3 : w4.heap.size < wr.heap.size := by omega
          have g4 : w4.heap.size + 1 < wr.heap.size := by omega
          have hun := hid (unpack_any vars dom m b ta T.length tc T t wr (hKx.ths HT5.out) (by omega) wv)
          have hpl := hid (fun bad mem th => unp_pack (vars := vars) (dom := dom) (m := m) (b := b) (t := T) (s := t) (bad := bad) (mem := mem) (th := th))
          obtain ⟨⟨⟨bd, me, te⟩, er⟩, hrr⟩ : ∃ r, r = unpS vars dom T m b (bytL t) := ⟨_, rfl⟩
          rw [← hrr] at hun hpl
          have HKx := hid hKx
          by_cases her : er = 0
          · subst her
            obtain ⟨hp1, hp2, hp3, hp4⟩ := hpl.out bd me te rfl
            have hpk : Hid (∀ W a1 c1 a2 c2, ThsIn W (In_ W) ta T.length tc T → ThrIn W (In_ W) a1 te.length c1 te → IntIn W (In_ W) a2 me.length c2 me → Calls Tryz.prog 13 #[.agg #[.int .i64 vars, .int .i64 dom, .slice ta T.length tc], .agg #[.int .i64 m, .int .i64 b], .agg #[.slice a1 te.length c1, .slice a2 me.length c2, .bool bd]] W fun e w' => e = .returned (.tuple #[.string t, .int .i64 0]) ∧ Below W.heap.size W w') := fun W a1 c1 a2 c2 h1 h2 h3 => by
              have h := pack_any vars dom m b ta T.length tc T a1 te.length c1 te a2 me.length c2 me bd W h1 h2 h3 hp2 hp3 hp4
              rw [hp1] at h
              exact h
            clear hp1 hp2 hp3 hp4 hpl hrr
            go_wp2_with fail
            refine hun.out.mono ?_
            rintro e w6 ⟨a1, c1, a2, c2, rfl, hh6, hm6, hb6⟩
            have hK6 := HKx.out.next hb6
            have HK6 := hid hK6
            generalize hW7 : w6.alloc (.cells #[.slice a1 te.length c1, .slice a2 me.length c2, .bool bd] 34) = W7
            have hB7 : Below w6.heap.size w6 W7 := by subst hW7; exact (Below.refl _ _).alloc (Nat.le_refl _) _
            have u0 : W7.cell? ⟨w6.heap.size, 0, none⟩ = some (.slice a1 te.length c1) := by subst hW7; go_simp
            have u1 : W7.cell? ⟨w6.heap.size, 1, none⟩ = some (.slice a2 me.length c2) := by subst hW7; go_simp
            have u2 : W7.cell? ⟨w6.heap.size, 2, none⟩ = some (.bool bd) := by subst hW7; go_simp
            have z8 : w6.heap.size < W7.heap.size := by subst hW7; simp
            have hK7 := hK6.next hB7
            have hcall := hid (hpk.out W7 a1 c1 a2 c2 (hK7.ths HT5.out) ((Kp.of hB7).thr hh6) ((Kp.of hB7).ints hm6))
            have v0 := (hK7.2 _ 0 z6).trans y0
            have v1 := (hK7.2 _ 1 z6).trans y1
            have v2 := (hK7.2 _ 2 z6).trans y2
            have v3 := (hK7.2 _ 0 z7).trans y3
            have v4 := (hK7.2 _ 1 z7).trans y4
            have z9 : w4.heap.size < W7.heap.size := by have := hK7.1.size; omega
            have z10 : w4.heap.size + 1 < W7.heap.size := by have := hK7.1.size; omega
            have HK7 := hid hK7
            have hW7x := hid hW7
            clear hW7 hB7 hK7 hK6 hKx hh6 hm6 hb6 hun hpk
            go_upto_region 16 with fail
            rw [hW7x.out]
            go_wp2_with fail
            refine hcall.out.mono ?_
            rintro e w8 ⟨rfl, hb8⟩
            have HK8 := hid (HK7.out.next hb8)
            clear hb8 u0 u1 u2 v0 v1 v2 v3 v4
            go_wp2_with fail
            go_roundw
            case rel => exact ⟨r + 1, by omega, by simp, HK8.out⟩
            case measure => simp [intOf]; omega
          · have hne : (er == 0) = false := by simpa using her
            clear hpl hrr her
            go_wp2_with fail
            refine hun.out.mono ?_
            rintro e w6 ⟨a1, c1, a2, c2, rfl, -, -, hb6⟩
            have HK6 := hid ((HKx.out.next hb6).alloc (.cells #[.slice a1 te.length c1, .slice a2 me.length c2, .bool bd] 34))
            clear hb6 hKx
            go_wp2_with fail
            go_roundw
            case rel => exact ⟨r + 1, by omega, by simp, HK6.out⟩
            case measure => simp [intOf]; omega
        · obtain rfl : r = 2 := by omega
          have HKx := hid hKx
          clear hKx
          go_wp2_with fail
          go_ret
          exact ⟨rfl, (HB.out.next (HK5.out.next HKx.out.1 |>.1)).1⟩
end Go.Proofs.YtekmcoflagajkaaGreatDoor
