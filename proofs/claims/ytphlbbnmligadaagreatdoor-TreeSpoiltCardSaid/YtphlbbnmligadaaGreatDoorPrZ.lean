/- The program's writers at every depth. -/
import Derived.Test.YtphlbbnmligadaaGreatDoorPrY
namespace Go.Proofs.YtphlbbnmligadaaGreatDoor
open Go.RowKit

set_option maxRecDepth 100000 in
set_option maxHeartbeats 4000000 in
theorem wst_step (vs : List ByteArray) (hv : vs.all nameB = true) (dom : Int) (hdom : dom ≤ 16) (n : Nat) (ih : WBlC vs dom n) : WStC vs dom (n + 1) := by
  rintro ⟨k, r, v, a, b, t, e⟩ hok hcnt B wb L va cv cs w hw hBw hvr hin hlen
  obtain ⟨u0, u1, u2, u3, v0, v1, v2, v3, ta, ea, tc, ec, rfl, ha, hb, ht, he⟩ := hin.open_
  rw [okS_succ, okF_mk] at hok
  simp only [Bool.and_eq_true, decide_eq_true_eq] at hok
  obtain ⟨⟨⟨⟨⟨⟨hk1, hk2⟩, hp⟩, -⟩, -⟩, hot⟩, hoe⟩ := hok
  unfold partL at hp
  simp only [Bool.and_eq_true] at hp
  obtain ⟨⟨⟨p0, p1⟩, p2⟩, p3⟩ := hp
  rw [cntS_mk] at hcnt
  have hr := numL_small p0 (by decide)
  have hL : L.length ≤ 90000000000 := by omega
  have hbt : ∀ W L', Wt W B wb L' (.slice va vs.length cv) → Wk B wb w W → L'.length + (blkB vs t).length ≤ 90000000000 → Calls Tryz.prog 28 #[.pointer (some ⟨wb, 0, none⟩), .slice ta t.length tc] W (PutPost B wb (L' ++ blkB vs t) (.slice va vs.length cv) W) := fun W L' h1 h2 h3 =>
    ih t hot (by omega) B wb L' va cv ta tc W h1 (Nat.le_trans hBw h2.bl.size) (hvr.keep fun b o hb => h2.bl.cell (p := ⟨b, o, none⟩) hb) (ht.keep fun b o hb => h2.bl.cell (p := ⟨b, o, none⟩) hb) h3
  have hbe : ∀ W L', Wt W B wb L' (.slice va vs.length cv) → Wk B wb w W → L'.length + (blkB vs e).length ≤ 90000000000 → Calls Tryz.prog 28 #[.pointer (some ⟨wb, 0, none⟩), .slice ea e.length ec] W (PutPost B wb (L' ++ blkB vs e) (.slice va vs.length cv) W) := fun W L' h1 h2 h3 =>
    ih e hoe (by omega) B wb L' va cv ea ec W h1 (Nat.le_trans hBw h2.bl.size) (hvr.keep fun b o hb => h2.bl.cell (p := ⟨b, o, none⟩) hb) (he.keep fun b o hb => h2.bl.cell (p := ⟨b, o, none⟩) hb) h3
  have htl : t.length ≤ tc ∧ tc ≤ 9223372036854775807 := ⟨ht.le, by have := ht.mx; unfold maxLen at this; omega⟩
  have hel : e.length ≤ ec ∧ ec ≤ 9223372036854775807 := ⟨he.le, by have := he.mx; unfold maxLen at this; omega⟩
  rw [stB_eq] at hlen ⊢
  simp only [St.kind, St.reg, St.var, St.a, St.b, St.t, St.e] at hlen ⊢
  have hk : k = 1 ∨ k = 2 ∨ k = 3 ∨ k = 4 ∨ k = 5 ∨ k = 6 ∨ k = 7 ∨ k = 8 ∨ k = 9 ∨ k = 10 ∨ k = 11 := by omega
  have hfa : a.fit dom 20 = true → a.fit 16 20 = true := Ex.fit_mono hdom 20 a
  have hfb : b.fit dom 20 = true → b.fit 16 20 = true := Ex.fit_mono hdom 20 b
  rcases hk with rfl | rfl | rfl | rfl | rfl | rfl | rfl | rfl | rfl | rfl | rfl
  · exact wload_any vs hv B wb L va cv r v u0 u1 u2 u3 v0 v1 v2 v3 a b ta ea _ _ tc ec w hw hBw hvr hr (numL_true p1) ha.ones hb.ones hL
  · exact wstore_any vs hv B wb L va cv r v u0 u1 u2 u3 v0 v1 v2 v3 a b ta ea _ _ tc ec w hw hBw hvr hr (numL_true p1) ha (hfa p2) hb.ones hL
  · exact wset_any vs hv B wb L va cv r v u0 u1 u2 u3 v0 v1 v2 v3 a b ta ea _ _ tc ec w hw hBw hvr hr ha (hfa p2) hb.ones hL
  · exact wfence_any vs hv B wb L va cv r v u0 u1 u2 u3 v0 v1 v2 v3 a b ta ea _ _ tc ec w hw hBw hvr hr ha.ones hb.ones hL
  · exact wweak_any vs hv B wb L va cv r v u0 u1 u2 u3 v0 v1 v2 v3 a b ta ea _ _ tc ec w hw hBw hvr hr ha.ones hb.ones hL
  · exact wcas_any vs hv B wb L va cv r v u0 u1 u2 u3 v0 v1 v2 v3 a b ta ea _ _ tc ec w hw hBw hvr hr (numL_true p1) ha (hfa p2) hb (hfb p3) hL
  · exact wlock_any vs hv B wb L va cv r v u0 u1 u2 u3 v0 v1 v2 v3 a b ta ea _ _ tc ec w hw hBw hvr hr (numL_true p1) ha.ones hb.ones hL
  · exact wunlock_any vs hv B wb L va cv r v u0 u1 u2 u3 v0 v1 v2 v3 a b ta ea _ _ tc ec w hw hBw hvr hr (numL_true p1) ha.ones hb.ones hL
  · exact wassert_any vs hv B wb L va cv r v u0 u1 u2 u3 v0 v1 v2 v3 a b ta ea _ _ tc ec w hw hBw hvr hr ha (hfa p2) hb.ones hL
  · refine wchoice_any vs B wb L va cv r v u0 u1 u2 u3 v0 v1 v2 v3 a t e ta ea _ _ tc ec w hw hBw ha (hfa p2) hb.ones htl hel (if decide (e.length ≠ 0) = true then [32, 101, 108, 115, 101, 32] ++ blkB vs e else []) (fun h => ?_) (fun h => ?_) hlen hbt hbe
    · rw [if_neg (by simp [h])]
    · rw [if_pos (decide_eq_true h)]
  · exact wloop_any vs B wb L va cv r v u0 u1 u2 u3 v0 v1 v2 v3 a t e ta ea _ _ tc ec w hw hBw ha (hfa p2) hb.ones htl hel hlen hbt hbe
theorem wst_all {vs : List ByteArray} (hv : vs.all nameB = true) {dom : Int} (hdom : dom ≤ 16) : ∀ n, WStC vs dom n ∧ WBlC vs dom n
  | 0 => by
    have h0 : WStC vs dom 0 := fun x h => by simp [okS] at h
    exact ⟨h0, wblock_step vs hv dom 0 h0⟩
  | n + 1 => by
    have h1 := wst_step vs hv dom hdom n (wst_all hv hdom n).2
    exact ⟨h1, wblock_step vs hv dom (n + 1) h1⟩
end Go.Proofs.YtphlbbnmligadaaGreatDoor
