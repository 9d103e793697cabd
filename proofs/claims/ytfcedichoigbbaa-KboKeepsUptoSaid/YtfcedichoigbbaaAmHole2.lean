/-
  The loop over a map is what the policy says. No condition.
-/
import Derived.Test.YtfcedichoigbbaaAmHole1
namespace Go.Proofs.Ytfcedichoigbbaa.Am
open Go Go.Proofs
set_option maxRecDepth 1000000
set_option maxHeartbeats 4000000
theorem hole_ok : HoleOk Try.prog plc := by
  intro c g hg st e st' h C a Q hs hq
  obtain ⟨rfl, rfl⟩ : c = h45_0 ∧ g = holeG := by
    simp only [plc] at hg
    split at hg
    · rename_i hc; cases hg; exact ⟨hc, rfl⟩
    · cases hg
  obtain ⟨tm, H, nx⟩ := st
  simp only [holeG] at h
  split at h
  · rename_i tm' y0 y1 y2 y3 y4 y5 y6 y7 y8 y9 y10 r
    split at h
    · rename_i o
      split at h
      · rename_i sh es clk hH
        split at h
        · rename_i hc
          obtain ⟨hr, hst, hlc⟩ := hc
          simp only [Option.map_eq_some_iff] at h
          obtain ⟨ns, hns, h⟩ := h
          cases h
          have hsz := hs.tm.size
          simp only [List.length_cons, hr] at hsz
          obtain ⟨tmps, df⟩ := a
          obtain rfl : df = [] := hs.df
          simp only at hsz
          have hcH : C.H o = some (.mp sh es clk) := by rw [hs.H]; exact hH
          obtain ⟨bm, S, es', hρ, hheap, hes, hent⟩ := hs.inv.obj o _ hcH
          have r7 : Rep C (.map o) (tmps.getD 7 undef) := hs.tm.rep 7 _ rfl
          have r9 : Rep C (.d (.bool false)) (tmps.getD 9 undef) := hs.tm.rep 9 _ rfl
          have r10 : Rep C (.d (.bool false)) (tmps.getD 10 undef) := hs.tm.rep 10 _ rfl
          have h7 : tmps.getD 7 undef = .map (some bm) := by
            generalize tmps.getD 7 undef = u at r7
            cases r7 with
            | map _ b hU hb => obtain ⟨_, S', h2⟩ := hb _ hcH; rw [hρ] at h2; cases h2; rfl
          have h9 : tmps.getD 9 undef = .bool false := by
            have hd := r9.dinv
            generalize tmps.getD 9 undef = u at hd ⊢
            cases hd; rfl
          have h10 : tmps.getD 10 undef = .bool false := by
            have hd := r10.dinv
            generalize tmps.getD 10 undef = u at hd ⊢
            cases hd; rfl
          obtain ⟨hv1, hv2, hv3⟩ := vals_rep es es'.toList ns (by simpa using hes) (fun j k v n hj => by
            obtain ⟨_, e, h1, _, h2, h3⟩ := hent j k v n hj
            exact ⟨e, by simpa using h1, h2, h3⟩) hns
          rw [tmps_lit tmps hsz h7 h9 h10]
          refine hole_wp (tmps.getD 0 undef) (tmps.getD 1 undef) (tmps.getD 2 undef) (tmps.getD 3 undef) (tmps.getD 4 undef) (tmps.getD 5 undef) (tmps.getD 6 undef) (.map (some bm)) (tmps.getD 8 undef) (.bool false) (.bool false) (tmps.getD 11 undef) (tmps.getD 12 undef) (tmps.getD 13 undef) (tmps.getD 14 undef) (tmps.getD 15 undef) (tmps.getD 16 undef) (tmps.getD 17 undef) (tmps.getD 18 undef) (tmps.getD 19 undef) (tmps.getD 20 undef) (tmps.getD 21 undef) (tmps.getD 22 undef) (tmps.getD 23 undef) (tmps.getD 24 undef) (tmps.getD 25 undef) (tmps.getD 26 undef) (tmps.getD 27 undef) (tmps.getD 28 undef) (tmps.getD 29 undef) (tmps.getD 30 undef) (tmps.getD 31 undef) (tmps.getD 32 undef) (tmps.getD 33 undef) (tmps.getD 34 undef) (tmps.getD 35 undef) (tmps.getD 36 undef) (tmps.getD 37 undef) (tmps.getD 38 undef) (tmps.getD 39 undef) (tmps.getD 40 undef) (tmps.getD 41 undef) (tmps.getD 42 undef) (tmps.getD 43 undef) (tmps.getD 44 undef) (tmps.getD 45 undef) (tmps.getD 46 undef) (tmps.getD 47 undef) (tmps.getD 48 undef) (tmps.getD 49 undef) (tmps.getD 50 undef) (tmps.getD 51 undef) (tmps.getD 52 undef) (tmps.getD 53 undef) (tmps.getD 54 undef) (tmps.getD 55 undef) (tmps.getD 56 undef) (tmps.getD 57 undef) (tmps.getD 58 undef) (tmps.getD 59 undef) (tmps.getD 60 undef) (tmps.getD 61 undef) (tmps.getD 62 undef) (tmps.getD 63 undef) (tmps.getD 64 undef) (tmps.getD 65 undef) (tmps.getD 66 undef) (tmps.getD 67 undef) (tmps.getD 68 undef) (tmps.getD 69 undef) (tmps.getD 70 undef) (tmps.getD 71 undef) (tmps.getD 72 undef) (tmps.getD 73 undef) (tmps.getD 74 undef) (tmps.getD 75 undef) (tmps.getD 76 undef) (tmps.getD 77 undef) (tmps.getD 78 undef) (tmps.getD 79 undef) (tmps.getD 80 undef) (tmps.getD 81 undef) (tmps.getD 82 undef) (tmps.getD 83 undef) (tmps.getD 84 undef) (tmps.getD 85 undef) (tmps.getD 86 undef) (tmps.getD 87 undef) (tmps.getD 88 undef) (tmps.getD 89 undef) (tmps.getD 90 undef) (tmps.getD 91 undef) (tmps.getD 92 undef) (tmps.getD 93 undef) (tmps.getD 94 undef) (tmps.getD 95 undef) (tmps.getD 96 undef) (tmps.getD 97 undef) (tmps.getD 98 undef) (tmps.getD 99 undef) (tmps.getD 100 undef) (tmps.getD 101 undef) (tmps.getD 102 undef) (tmps.getD 103 undef) (tmps.getD 104 undef) (tmps.getD 105 undef) (tmps.getD 106 undef) (tmps.getD 107 undef) (tmps.getD 108 undef) (tmps.getD 109 undef) (tmps.getD 110 undef) (tmps.getD 111 undef) (tmps.getD 112 undef) (tmps.getD 113 undef) (tmps.getD 114 undef) (tmps.getD 115 undef) C.w bm clk es' hheap ⟨fun x hx => ?_, by rw [hv3, hst]; exact List.nodup_range⟩ hv2 Q (fun k seen u12 u28 u29 u30 u31 u32 u33 u34 u35 u36 u37 u38 u39 u40 u41 u42 u43 => ?_)
          · have : x.born ∈ es'.toList.map (·.born) := List.mem_map.2 ⟨x, hx, rfl⟩
            rw [hv3, hst, List.mem_range] at this
            omega
          · have hg2 : Grew C.w (({ C.w with drawn := k } : World).alloc (.mapIter (some bm) clk seen clk)) := Grew.trans (b := { C.w with drawn := k }) ⟨rfl, rfl, rfl, Nat.le_refl _, fun _ _ => rfl⟩ (Grew.alloc _ _)
            obtain ⟨hI, hE⟩ := grow_world hs.inv hg2
            refine hq ⟨C.ρ, C.F, C.H, C.U, _⟩ _ ⟨⟨hs.H, hI, hs.lt, ⟨by simp, fun j x hx => ?_⟩, rfl⟩, hE, Nat.le_refl _, fun _ h => .inl h⟩
            have e1 : (es'.toList.any fun e => decide (0 < valOf e.val)) = ns.any fun n => decide (0 < n) := by rw [← hv1, List.any_map]; rfl
            have e2 : (es'.toList.any fun e => decide (valOf e.val < 0)) = ns.any fun n => decide (n < 0) := by rw [← hv1, List.any_map]; rfl
            rw [e1, e2]
            match j, hx with
              | 0, hx => cases hx; exact (hs.tm.rep 0 _ rfl).ext hs.inv hE
              | 1, hx => cases hx; exact (hs.tm.rep 1 _ rfl).ext hs.inv hE
              | 2, hx => cases hx; exact (hs.tm.rep 2 _ rfl).ext hs.inv hE
              | 3, hx => cases hx; exact (hs.tm.rep 3 _ rfl).ext hs.inv hE
              | 4, hx => cases hx; exact (hs.tm.rep 4 _ rfl).ext hs.inv hE
              | 5, hx => cases hx; exact (hs.tm.rep 5 _ rfl).ext hs.inv hE
              | 6, hx => cases hx; exact (hs.tm.rep 6 _ rfl).ext hs.inv hE
              | 8, hx => cases hx; exact (hs.tm.rep 8 _ rfl).ext hs.inv hE
              | 7, hx => cases hx; exact h7 ▸ r7.ext hs.inv hE
              | 9, hx => cases hx; exact .d _ _ (.bool _)
              | 10, hx => cases hx; exact .d _ _ (.bool _)
              | j + 11, hx =>
                have : x = .junk := by
                  simp only [List.getElem?_cons_succ, List.getElem?_replicate] at hx
                  split at hx <;> first | (cases hx; rfl) | cases hx
                subst this
                exact .junk _
        · cases h
      · cases h
    · cases h
  · cases h
end Go.Proofs.Ytfcedichoigbbaa.Am
