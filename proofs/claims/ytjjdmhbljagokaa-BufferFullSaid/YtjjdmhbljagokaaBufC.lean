/- The document's Take. -/
import Derived.Test.YtjjdmhbljagokaaBufB
namespace Go.Proofs.Ytjjdmhbljagokaa
open Go.RowKit

/-- One store looked at by Take. -/
def takeStep (v : Int) (s : (Int × Int) × List (Int × Int) × Bool) (y : Int × Int) : (Int × Int) × List (Int × Int) × Bool :=
  if !s.2.2 && y.1 == v then (y, s.2.1, true) else (s.1, s.2.1 ++ [y], s.2.2)
/-- The oldest store to a variable, and the others. -/
def takeL (v : Int) (l : List (Int × Int)) : (Int × Int) × List (Int × Int) × Bool := l.foldl (takeStep v) ((0, 0), [], false)
theorem takeL_nil (v : Int) : takeL v [] = ((0, 0), [], false) := rfl
theorem takeL_snoc (v : Int) (l : List (Int × Int)) (y : Int × Int) : takeL v (l ++ [y]) = takeStep v (takeL v l) y := by
  unfold takeL; rw [List.foldl_append]; rfl
theorem takeL_take (v : Int) (l : List (Int × Int)) (k : Nat) (hk : k < l.length) : takeL v (l.take (k + 1)) = takeStep v (takeL v (l.take k)) l[k] := by
  rw [List.take_succ_eq_append_getElem hk, takeL_snoc]
theorem takeL_len (v : Int) (l : List (Int × Int)) : (takeL v l).2.1.length ≤ l.length := by
  have key : ∀ (l : List (Int × Int)) (s : (Int × Int) × List (Int × Int) × Bool), (l.foldl (takeStep v) s).2.1.length ≤ s.2.1.length + l.length := by
    intro l
    induction l with
    | nil => intro s; simp
    | cons y l ih =>
      intro s
      have h := ih (takeStep v s y)
      have h2 : (takeStep v s y).2.1.length ≤ s.2.1.length + 1 := by
        unfold takeStep; split <;> simp
      simp only [List.foldl_cons, List.length_cons]
      omega
  have h := key l ((0, 0), [], false)
  unfold takeL
  simpa using h

def TakePost (w : World) (r : (Int × Int) × List (Int × Int) × Bool) (e : Ending) (w' : World) : Prop :=
  ∃ a cap, e = .returned (.tuple #[.agg #[.int .i64 r.1.1, .int .i64 r.1.2], .slice a r.2.1.length cap, .bool r.2.2]) ∧ EnIn w' (In_ w') a r.2.1.length cap r.2.1 ∧ Below w.heap.size w w'

/-- What was there is kept; two boxes lie behind it; the second holds x. -/
abbrev KB (w : World) (x : Int × Int) (wr : World) : Prop :=
  Kp w wr ∧ w.heap.size + 2 ≤ wr.heap.size ∧ (wr.cell? ⟨w.heap.size, 0, none⟩ = some (.int .i64 0) ∧ wr.cell? ⟨w.heap.size, 1, none⟩ = some (.int .i64 0)) ∧
    (wr.cell? ⟨w.heap.size + 1, 0, none⟩ = some (.int .i64 x.1) ∧ wr.cell? ⟨w.heap.size + 1, 1, none⟩ = some (.int .i64 x.2)) ∧
    (wr.frozen? ⟨w.heap.size, 0, none⟩ = false ∧ wr.frozen? ⟨w.heap.size, 1, none⟩ = false) ∧ wr.frozen? ⟨w.heap.size + 1, 0, none⟩ = false ∧ wr.frozen? ⟨w.heap.size + 1, 1, none⟩ = false
theorem KB.of {w wr w' : World} {x : Int × Int} (h : KB w x wr) (hb : Below (w.heap.size + 2) wr w') : KB w x w' := by
  obtain ⟨h1, h2, ⟨h3, h4⟩, ⟨h5, h6⟩, ⟨f1, f2⟩, f3, f4⟩ := h
  refine ⟨.of (h1.1.trans (hb.mono (by omega))), Nat.le_trans h2 hb.size, ⟨?_, ?_⟩, ⟨?_, ?_⟩, ⟨?_, ?_⟩, ?_, ?_⟩
  · rw [hb.cell (p := ⟨_, _, none⟩) (by simp)]; exact h3
  · rw [hb.cell (p := ⟨_, _, none⟩) (by simp)]; exact h4
  · rw [hb.cell (p := ⟨_, _, none⟩) (by simp)]; exact h5
  · rw [hb.cell (p := ⟨_, _, none⟩) (by simp)]; exact h6
  · rw [hb.frozen (p := ⟨_, _, none⟩) (by simp)]; exact f1
  · rw [hb.frozen (p := ⟨_, _, none⟩) (by simp)]; exact f2
  · rw [hb.frozen (p := ⟨_, _, none⟩) (by simp)]; exact f3
  · rw [hb.frozen (p := ⟨_, _, none⟩) (by simp)]; exact f4
/-- The second box written. -/
theorem KB.put {w wr : World} {x : Int × Int} (h : KB w x wr) (y : Int × Int) : KB w y ((wr.setCell ⟨w.heap.size + 1, 0, none⟩ (.int .i64 y.1)).setCell ⟨w.heap.size + 1, 1, none⟩ (.int .i64 y.2)) := by
  obtain ⟨h1, h2, ⟨h3, h4⟩, ⟨h5, h6⟩, ⟨f1, f2⟩, f3, f4⟩ := h
  refine ⟨.of ((h1.1.setCell (by simp) _).setCell (by simp) _), by simpa using h2, ⟨?_, ?_⟩, ⟨?_, ?_⟩, ⟨?_, ?_⟩, ?_, ?_⟩ <;> go_simp
/-- The first box written. -/
theorem KB.fin {w wr : World} {x : Int × Int} (h : KB w x wr) (y : Int × Int) : Below w.heap.size w ((wr.setCell ⟨w.heap.size, 0, none⟩ (.int .i64 y.1)).setCell ⟨w.heap.size, 1, none⟩ (.int .i64 y.2)) :=
  (h.1.1.setCell (by simp) _).setCell (by simp) _
theorem KB.drew {w wr : World} {x : Int × Int} (h : KB w x wr) : KB w x wr.drew := h.of (Below.refl _ _).drew
theorem KB.alloc {w wr : World} {x : Int × Int} (h : KB w x wr) (o : Obj) : KB w x (wr.alloc o) := h.of ((Below.refl _ _).alloc h.2.1 o)
theorem KB.grown {w wr w1 : World} {x : Int × Int} {r : Option Nat} (h : KB w x wr) (hg : wr.grownBy w1 r) (hr : ∀ k, r = some k → w.heap.size + 2 ≤ k) : KB w x w1 :=
  h.of ((Below.refl _ _).grown hg h.2.1 hr)

set_option maxHeartbeats 2000000 in
theorem refTake_any (a : Option Addr) (n cap : Nat) (l : List (Int × Int)) (v : Int) (w : World) (hl : EnIn w (In_ w) a n cap l) (hlen : l.length ≤ 1000) :
    Calls Try.prog 17 #[.slice a n cap, .int .i64 v] w (TakePost w (takeL v l)) := by
  have hn := hl.1
  subst hn
  have hcap := hl.2.le
  have hmx := hl.2.mx
  unfold maxLen at hmx
  go_enter Try.func17, Try.ntmps17
  go_wp2_with fail
  generalize hW : World.alloc (World.alloc w _) _ = W0
  have hB : KB w (0, 0) W0 := by
    subst hW
    refine ⟨.of (((Below.refl _ _).alloc (Nat.le_refl _) _).alloc (by simp) _), by simp, ⟨?_, ?_⟩, ⟨?_, ?_⟩, ⟨?_, ?_⟩, ?_, ?_⟩ <;> go_simp
  clear hW
  go_loopw [7, 9, 10] (fun o s i wr => ∃ k : Nat, k ≤ l.length ∧ i = .int .i64 k ∧ s = .bool (takeL v (l.take k)).2.2 ∧ KB w (takeL v (l.take k)).1 wr ∧ (∃ a1 n1 c1, o = .slice a1 n1 c1) ∧
    Hid (wr.ownsRow (w.heap.size + 2) 26 2 o (takeL v (l.take k)).2.1.length ((takeL v (l.take k)).2.1.flatMap enC))) (fun _ _ i _ => l.length - (intOf i).toNat)
  case atStart => exact ⟨0, Nat.zero_le _, rfl, rfl, hB, ⟨_, _, _, rfl⟩, World.ownsRow_nil _ _ _ _⟩
  case round =>
    obtain ⟨k, hk, rfl, rfl, hK, ⟨a1, n1, c1, rfl⟩, hown⟩ := hrel
    by_cases hlt : k < l.length
    · obtain ⟨bb, off, rfl, hbb, e0, e1⟩ := hl.at_ k hlt
      have hts := hid (takeL_take v l k hlt)
      have hle : (takeL v (l.take k)).2.1.length ≤ k := Nat.le_trans (takeL_len _ _) (List.length_take_le _ _)
      have hle := hid hle
      have hbl := hbb.lt
      have k0 : (0 : Int) ≤ k := by omega
      have k1 : (k : Int) < l.length := by omega
      generalize hC : takeL v (l.take k) = C at *
      clear hC
      obtain ⟨x, o, s⟩ := C
      simp only at hK hown hle
      have hown2o : ∀ (v2 : Value) (w2 : World), w2.ownsRow (w.heap.size + 2) 26 2 v2 (o.length + 1) (o.flatMap enC ++ [.int .i64 l[k].1, .int .i64 l[k].2]) → (wr.alloc (.cells #[.int .i64 l[k].1, .int .i64 l[k].2] 26)).grownBy w2 (Value.slice a1 n1 c1).ownBlock →
          Hid (w2.ownsRow (w.heap.size + 2) 26 2 v2 (o ++ [l[k]]).length ((o ++ [l[k]]).flatMap enC)) ∧ (∃ a2 n2 c2, v2 = .slice a2 n2 c2) ∧ KB w x w2 := by
        intro v2 w2 h1 h2
        have h3 : w2.ownsRow (w.heap.size + 2) 26 2 v2 (o ++ [l[k]]).length ((o ++ [l[k]]).flatMap enC) := by simpa [enC] using h1
        obtain ⟨a3, cap3, rfl, _⟩ := EnIn.of_own h3
        exact ⟨h3, ⟨_, _, _, rfl⟩, (hK.alloc _).grown h2 (fun k hk => (hown.out.lt k hk).1)⟩
      have hown2 := hid hown2o
      clear hown2o
      by_cases hs : s = false ∧ l[k].1 = v
      · obtain ⟨rfl, hv⟩ := hs
        have hv1 : (l[k].1 == v) = true := by simpa using hv
        have hts2 : Hid (takeL v (l.take (k + 1)) = (l[k], o, true)) := by show _ = _; rw [hts.out]; simp [takeStep, hv1]
        have hb1 : w.heap.size + 1 < wr.heap.size := by have := hK.2.1; omega
        clear hts hv
        go_wp2_with fail
        go_roundw
        case rel => exact ⟨k + 1, by omega, by simp, by rw [hts2.out], by rw [hts2.out]; exact hK.put l[k], ⟨_, _, _, rfl⟩, by rw [hts2.out]; exact ownsRow_setCell_below (ownsRow_setCell_below hown.out (by simp) _) (by simp) _⟩
        case measure => simp [intOf]; omega
      · have hts2 : Hid (takeL v (l.take (k + 1)) = (x, o ++ [l[k]], s)) := by
          show _ = _; rw [hts.out]
          cases s with
          | true => simp [takeStep]
          | false =>
            have hv1 : (l[k].1 == v) = false := by rw [beq_eq_false_iff_ne]; intro h; exact hs ⟨rfl, h⟩
            simp [takeStep, hv1]
        clear hts
        have hs2 : s = true ∨ (s = false ∧ (l[k].1 == v) = false) := by
          cases s with
          | true => exact .inl rfl
          | false => right; refine ⟨rfl, ?_⟩; rw [beq_eq_false_iff_ne]; intro h; exact hs ⟨rfl, h⟩
        clear hs
        have hl1 : o.length ≤ 1000 := by have := hle.out; omega
        have hz : w.heap.size + 2 ≤ wr.heap.size := hK.2.1
        have Hlen := hid hl1
        clear hl1
        rcases hs2 with rfl | ⟨rfl, hv1⟩
        all_goals
          go_wp2_with (first
            | (at_builtin
               refine list_en (base := w.heap.size + 2) (.tmp 32) (.tmp 37) (.slice a1 n1 c1) o.length (o.flatMap enC) 1 [.int .i64 l[k].1, .int .i64 l[k].2] ?_ ?_ ?_ ?_ ?_ ?_ ?_ ?_ ?_
               (focus rfl); (focus rfl); (focus rfl); (focus exact hown.out.alloc _); (focus exact ⟨_, _, rfl, src_new rfl⟩); (focus exact one_cells); (focus (have := Hlen.out; omega)); (focus (simp; omega))
               intro v2 w2 hown3 hg3 hat3)
            | fail)
          obtain ⟨H1, ⟨a2, n2, c2, rfl⟩, H3⟩ := hown2.out v2 w2 hown3 hg3
          clear hown3 hg3 hat3 hown2 hown Hlen hle
          go_wp2_with fail
          go_roundw
          case rel => exact ⟨k + 1, by omega, by simp, by rw [hts2.out], by rw [hts2.out]; exact H3, ⟨_, _, _, rfl⟩, by rw [hts2.out]; exact H1⟩
          case measure => simp [intOf]; omega
    · obtain rfl : k = l.length := by omega
      rw [List.take_length] at hK hown
      simp only [List.take_length]
      obtain ⟨a3, cap3, ha3, hen⟩ := EnIn.of_own hown.out
      cases ha3
      have hz : w.heap.size + 2 ≤ wr.heap.size := hK.2.1
      generalize hC : takeL v l = C at *
      obtain ⟨x, o, s⟩ := C
      simp only at hK hown hen
      clear hC
      have hown3 := ownsRow_setCell_below (ownsRow_setCell_below hown.out (a := ⟨w.heap.size, 0, none⟩) (by simp) (.int .i64 x.1)) (a := ⟨w.heap.size, 1, none⟩) (by simp) (.int .i64 x.2)
      obtain ⟨a3, cap3, ha3, hen3⟩ := EnIn.of_own hown3
      cases ha3
      have hfin : Hid (TakePost w (x, o, s) (.returned (.tuple #[.agg #[.int .i64 x.1, .int .i64 x.2], .slice a1 o.length c1, .bool s])) ((wr.setCell ⟨w.heap.size, 0, none⟩ (.int .i64 x.1)).setCell ⟨w.heap.size, 1, none⟩ (.int .i64 x.2))) :=
        ⟨a1, c1, rfl, hen3.widen fun b hb => hb.2, hK.fin x⟩
      clear hen3 hown3 hen hown
      go_wp2_with fail
      refine bodyPost_ret (v := .tuple #[.agg #[.int .i64 x.1, .int .i64 x.2], .slice a1 o.length c1, .bool s]) ?_ rfl hfin.out
      have hK1 := hK.2.1
      have r0 : ((wr.setCell ⟨w.heap.size, 0, none⟩ (.int .i64 x.1)).setCell ⟨w.heap.size, 1, none⟩ (.int .i64 x.2)).cell? ⟨w.heap.size, 0, none⟩ = some (.int .i64 x.1) := by go_simp
      have r1 : ((wr.setCell ⟨w.heap.size, 0, none⟩ (.int .i64 x.1)).setCell ⟨w.heap.size, 1, none⟩ (.int .i64 x.2)).cell? ⟨w.heap.size, 1, none⟩ = some (.int .i64 x.2) := by go_simp
      generalize World.setCell (World.setCell wr _ _) _ _ = W2 at r0 r1 ⊢
      simp [results, Try.results17, go_sem, r0, r1]
end Go.Proofs.Ytjjdmhbljagokaa
