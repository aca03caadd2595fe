/- The program's Heads. -/
import Derived.Test.YtjjdmhbljagokaaBufJ
namespace Go.Proofs.Ytjjdmhbljagokaa
open Go.RowKit Go.Sort

/-- The variables whose oldest store may be done, as the program has them. -/
def headsL (m : Int) (l : List (Int × Int)) : List Int :=
  if m = 1 then (l.map (·.1)).take 1 else if m = 2 then Lib.compact ((l.map (·.1)).mergeSort fun x y => decide (x ≤ y)) else []
def HeadsPost (w : World) (r : List Int) (e : Ending) (w' : World) : Prop :=
  ∃ a cap, e = .returned (.slice a r.length cap) ∧ IntIn w' (In_ w') a r.length cap r ∧ Below w.heap.size w w'
theorem IntIn.take1 {w : World} {S : Nat → Prop} {a : Option Addr} {n cap : Nat} {l : List Int} (h : IntIn w S a n cap l) : IntIn w S a (l.take 1).length cap (l.take 1) := by
  have hle : (l.take 1).length ≤ l.length := by rw [List.length_take]; omega
  refine ⟨rfl, Nat.le_trans hle h.2.le, h.2.mx, fun h0 => ?_⟩
  obtain ⟨b, off, e, hb, hc⟩ := h.2.at_ (by omega)
  refine ⟨b, off, e, hb, fun i hi j hj => ?_⟩
  have hi' : i < l.length := by omega
  have := hc i hi' j hj
  rw [this]
  have e1 : (l.take 1)[i]? = l[i]? := List.getElem?_take_of_lt (by rw [List.length_take] at hi; omega)
  rw [e1]

theorem src_new1 (wr : World) (o : Obj) (u : Value) {T : TypeId} : SrcAt ((wr.alloc o).alloc (.cells #[u] T)) 1 (some ⟨wr.heap.size + 1, 0, none⟩) 1 [u] := by
  have h := src_new (w := wr.alloc o) (T := T) (size := 1) (m := 1) (news := [u]) rfl
  rwa [World.size_alloc] at h

theorem Calls.of_len {g c n n' : Nat} {f : FuncId} {w : World} {R : Ending → World → Prop} (h : n = n') (hc : Calls Try.prog f #[.slice (some ⟨g, 0, none⟩) n c] w R) : Calls Try.prog f #[.slice (some ⟨g, 0, none⟩) n' c] w R := h ▸ hc

set_option maxHeartbeats 4000000 in
theorem heads_any (a : Option Addr) (n cap : Nat) (l : List (Int × Int)) (m : Int) (w : World) (hl : EnIn w (In_ w) a n cap l) (hlen : l.length ≤ 1000) :
    Calls Try.prog 14 #[.slice a n cap, .int .i64 m] w (HeadsPost w (headsL m l)) := by
  have hn := hl.1
  subst hn
  have hcap := hl.2.le
  have hmx := hl.2.mx
  unfold maxLen at hmx
  go_enter Try.func14, Try.ntmps14
  go_wp2_with fail
  go_loopw [4, 9] (fun o i wr => ∃ k : Nat, k ≤ l.length ∧ i = .int .i64 k ∧ Kp w wr ∧ (∃ a1 n1 c1, o = .slice a1 n1 c1) ∧
    Hid (wr.ownsRow w.heap.size 3 1 o ((l.take k).map (·.1)).length (((l.take k).map (·.1)).map (Value.int .i64)))) (fun _ i _ => l.length - (intOf i).toNat)
  case atStart => exact ⟨0, Nat.zero_le _, rfl, Kp.refl _, ⟨_, _, _, rfl⟩, World.ownsRow_nil _ _ _ _⟩
  case round =>
    obtain ⟨k, hk, rfl, hK, ⟨a1, n1, c1, rfl⟩, hown⟩ := hrel
    by_cases hlt : k < l.length
    · obtain ⟨bb, off, rfl, hbb, e0, e1⟩ := hl.at_ k hlt
      have hts : Hid ((l.take (k + 1)).map (·.1) = (l.take k).map (·.1) ++ [l[k].1]) := by show _ = _; rw [List.take_succ_eq_append_getElem hlt, List.map_append]; rfl
      have hle : Hid (((l.take k).map (·.1)).length ≤ 1000) := by show _ ≤ _; rw [List.length_map, List.length_take]; omega
      have hbl := hbb.lt
      have g0 := hK.1.size
      have g2 : bb < wr.heap.size := by omega
      have k0 : (0 : Int) ≤ k := by omega
      have k1 : (k : Int) < l.length := by omega
      generalize hC : (l.take k).map (·.1) = C at *
      clear hC
      have hown2o : ∀ (v2 : Value) (w2 : World), w2.ownsRow w.heap.size 3 1 v2 (C.length + 1) (C.map (Value.int .i64) ++ [.int .i64 l[k].1]) → ∀ wx, wx.grownBy w2 (Value.slice a1 n1 c1).ownBlock → Kp w wx →
          Hid (w2.ownsRow w.heap.size 3 1 v2 (C ++ [l[k].1]).length ((C ++ [l[k].1]).map (Value.int .i64))) ∧ (∃ a2 n2 c2, v2 = .slice a2 n2 c2) ∧ Kp w w2 := by
        intro v2 w2 h1 wx h2 h4
        have h3 : w2.ownsRow w.heap.size 3 1 v2 (C ++ [l[k].1]).length ((C ++ [l[k].1]).map (Value.int .i64)) := by simpa using h1
        obtain ⟨a3, cap3, rfl, _, _⟩ := IntIn.of_own h3
        exact ⟨h3, ⟨_, _, _, rfl⟩, h4.grown h2 (fun k hk => (hown.out.lt k hk).1)⟩
      have hown2 := hid hown2o
      clear hown2o
      go_wp2_with (first
        | (at_builtin
           refine list_int (base := w.heap.size) (.tmp 13) (.tmp 16) (.slice a1 n1 c1) C.length (C.map (Value.int .i64)) 1 [.int .i64 l[k].1] ?_ ?_ ?_ ?_ ?_ ?_ ?_ ?_ ?_
           (focus rfl); (focus rfl); (focus rfl)
           (focus exact (hown.out.alloc _).alloc _)
           (focus exact ⟨_, _, rfl, src_new1 _ _ _⟩)
           (focus exact one_int); (focus (have := hle.out; omega))
           (focus (first | (simp; done) | (simp; omega)))
           intro v2 w2 hown3 hg3 hat3)
        | fail)
      obtain ⟨H1, ⟨a2, n2, c2, rfl⟩, H3⟩ := hown2.out v2 w2 hown3 _ hg3 ((hK.alloc _).alloc _)
      clear hown3 hg3 hat3 hown2 hown hle
      go_wp2_with fail
      go_roundw
      case rel => exact ⟨k + 1, by omega, by simp, H3, ⟨_, _, _, rfl⟩, by rw [hts.out]; exact H1⟩
      case measure => simp [intOf]; omega
    · obtain rfl : k = l.length := by omega
      rw [List.take_length] at hown
      have hh : headsL m l = if m = 1 then (l.map (·.1)).take 1 else if m = 2 then Lib.compact ((l.map (·.1)).mergeSort fun x y => decide (x ≤ y)) else [] := rfl
      have hle : (l.map (·.1)).length ≤ 1000 := by rw [List.length_map]; omega
      generalize hC : l.map (·.1) = C at *
      clear hC hl
      obtain ⟨a3, cap3, ha3, hin, hrow⟩ := IntIn.of_own hown.out
      cases ha3
      by_cases hm1 : m = 1
      · rw [if_pos hm1] at hh
        subst hm1
        have Hh := hid hh
        have hcc := hin.2.le
        have hl1 : (C.take 1).length = min 1 C.length := List.length_take
        have hmin : (min 1 (C.length : Int)).toNat = (C.take 1).length := by omega
        have hfin : Hid (HeadsPost w (C.take 1) (.returned (.slice a1 (min 1 (C.length : Int)).toNat c1)) wr) := by
          rw [hmin]
          exact ⟨a1, c1, rfl, (hin.widen fun b hb => hb.2).take1, hK.1⟩
        clear hh hin hrow hown hl1 hmin
        have hmin0 : (0 : Int) ≤ min 1 (C.length : Int) := by omega
        go_wp2_with fail
        go_ret
        rw [Hh.out]
        exact hfin.out
      · rw [if_neg hm1] at hh
        have hm1' : (m == 1) = false := by rw [beq_eq_false_iff_ne]; exact hm1
        by_cases hm2 : m = 2
        · rw [if_pos hm2] at hh
          subst hm2
          have Hh := hid hh
          rcases hrow with rfl | ⟨g, rfl, hbg, hr⟩
          · have hfin : Hid (HeadsPost w (headsL 2 l) (.returned (.slice a1 0 c1)) wr) := by
              rw [Hh.out, show Lib.compact (([] : List Int).mergeSort fun x y => decide (x ≤ y)) = [] by simp [Lib.compact, Lib.compactUpTo]]
              exact ⟨a1, c1, rfl, hin.widen fun b hb => hb.2, hK.1⟩
            clear hh hin hown
            go_wp2_with (first
              | (go_at_call 26; (with_reducible refine (slices_Sort_int_none a1 c1 wr).mono ?_); rintro e w1 ⟨rfl, rfl⟩)
              | (go_at_call 27; (with_reducible refine (slices_Compact_int_empty a1 c1 _).mono ?_); rintro e w1 ⟨rfl, rfl⟩)
              | fail)
            go_ret
            exact hfin.out
          · have HC := hid hle
            clear hh hin hown hle
            go_wp2_with (first
              | (go_at_call 26; (with_reducible refine (sort_any g c1 C wr hr HC.out).mono ?_); rintro e w1 ⟨rfl, hr1, hb1⟩
                 have hls : (C.mergeSort fun x y => decide (x ≤ y)).length = C.length := List.length_mergeSort _)
              | (go_at_call 27; (with_reducible refine (Calls.of_len hls (compact_any g c1 (C.mergeSort fun x y => decide (x ≤ y)) w1 hr1 (by rw [hls]; exact HC.out))).mono ?_); rintro e w2 ⟨rfl, hr2, hb2⟩)
              | fail)
            have hfin : Hid (HeadsPost w (headsL 2 l) (.returned (.slice (some ⟨g, 0, none⟩) (Lib.compact (C.mergeSort fun x y => decide (x ≤ y))).length c1)) w2) := by
              rw [Hh.out]
              exact ⟨_, _, rfl, hr2.ints.widen (fun b e => by subst e; exact hr2.lt), hK.1.trans ((hb1.trans hb2).mono hbg)⟩
            go_ret
            exact hfin.out
        · rw [if_neg hm2] at hh
          have hm2' : (m == 2) = false := by rw [beq_eq_false_iff_ne]; exact hm2
          have Hh := hid hh
          have hfin : Hid (HeadsPost w [] (.returned (.slice none 0 0)) wr) := ⟨none, 0, rfl, IntIn.nil_, hK.1⟩
          clear hh hin hrow hown
          go_wp2_with fail
          go_ret
          rw [Hh.out]
          exact hfin.out
end Go.Proofs.Ytjjdmhbljagokaa
