/- The law RedoWrites holds of the program: proved over what is known of memory, each function by its contract. -/
import Derived.Test.YtmpiggcooboenaaDoorMgRedoWritesLaw
import Derived.Test.YtmpiggcooboenaaDoorMgRedo1
import Derived.Test.YtmpiggcooboenaaDoorMgRedo2
import Derived.Test.YtmpiggcooboenaaDoorMgRedo3
import Derived.Test.YtmpiggcooboenaaDoorMgRedo4
import Derived.Test.YtmpiggcooboenaaDoorMgRedo5
namespace Go.Proofs.YtmpiggcooboenaaDoor.AlRedoWrites
open Go Go.Al Go.Proofs Go.RowKit Go.Proofs.YtmpiggcooboenaaDoor.Al
set_option maxHeartbeats 8000000
set_option maxRecDepth 100000
set_option linter.unusedVariables false
set_option linter.unusedSimpArgs false
theorem law : LawK := by
  intro F hN xs wxs A c hc hK
  obtain ⟨l, rfl⟩ := bytes_of_wf wxs.2
  have hr : RowAt F A (bytesOf l) := elems_bytes hK
  clear hK wxs
  rw [List.length_map] at hc
  simp only [List.length_map]
  have h27 : (3 : Int) ≤ 27 ∧ (27 : Int) ≤ 65536 := by decide
  have out : ∀ F', Ext F F' → FnK Tryd.prog 23 #[] F' (fun v F' => v = .bool true ∧ Ext F F') := fun F' hF' => (awake6 F' (hN.mono hF')).mono fun v G h => ⟨h.1, hF'.trans h.2⟩
  (refine fn_walk tab_ok Tryd.func6 rfl rfl rfl rfl ?_; (conv => whnf))
  refine cond_split (fun h => ?_) (fun h => ?_)
  · ((conv => whnf); repeat (first | (apply load_at; (conv => lhs; whnf); (with_reducible assumption); rfl; (conv => whnf)) | (apply load_at; (conv => lhs; rw [add_plain, add_plain]); (with_reducible assumption); rfl; (conv => whnf)) | (apply loads_at; (conv => lhs; whnf); (with_reducible assumption); rfl; (conv => whnf)) | (refine ⟨⟨by omega, by omega⟩, ?_⟩; (conv => whnf))))
    refine call_of (out F (Ext.refl F)) ?_
    rintro v F9 ⟨rfl, hE⟩
    ((conv => whnf); repeat (first | (apply load_at; (conv => lhs; whnf); (with_reducible assumption); rfl; (conv => whnf)) | (apply load_at; (conv => lhs; rw [add_plain, add_plain]); (with_reducible assumption); rfl; (conv => whnf)) | (apply loads_at; (conv => lhs; whnf); (with_reducible assumption); rfl; (conv => whnf)) | (refine ⟨⟨by omega, by omega⟩, ?_⟩; (conv => whnf))))
    exact ⟨rfl, hE⟩
  have hl : l.length ≤ 40 := by
    have h : decide ((l.length : Int) > 40) = false := h
    have := of_decide_eq_false h
    omega
  clear h
  ((conv => whnf); repeat (first | (apply load_at; (conv => lhs; whnf); (with_reducible assumption); rfl; (conv => whnf)) | (apply load_at; (conv => lhs; rw [add_plain, add_plain]); (with_reducible assumption); rfl; (conv => whnf)) | (apply loads_at; (conv => lhs; whnf); (with_reducible assumption); rfl; (conv => whnf)) | (refine ⟨⟨by omega, by omega⟩, ?_⟩; (conv => whnf))))
  refine call_of (new_n h27 F) ?_
  rintro v F1 ⟨b, D1, rfl, hM1, hD1⟩
  have hF1 := hM1.keep (Ext.refl F) (Apart.none F)
  have hA1 := hM1.apart (Ext.refl F) (Apart.none F)
  ((conv => whnf); repeat (first | (apply load_at; (conv => lhs; whnf); (with_reducible assumption); rfl; (conv => whnf)) | (apply load_at; (conv => lhs; rw [add_plain, add_plain]); (with_reducible assumption); rfl; (conv => whnf)) | (apply loads_at; (conv => lhs; whnf); (with_reducible assumption); rfl; (conv => whnf)) | (refine ⟨⟨by omega, by omega⟩, ?_⟩; (conv => whnf))))
  refine call_of (fmt_n h27 hM1.inn hD1 (hN.mono hF1)) ?_
  rintro v F2 ⟨rfl, D2, s2, hM2, hD2, hf2⟩
  have hF2 := hM2.keep hF1 hA1
  have hA2 := hM2.apart hF1 hA1
  refine short [0, 3, 24, 26] [.slice A l.length c, .pointer (some ⟨b, 0, none⟩), .bool false, .int .i64 0] rfl fun ρ => ?_
  ((conv => whnf); repeat (first | (apply load_at; (conv => lhs; whnf); (with_reducible assumption); rfl; (conv => whnf)) | (apply load_at; (conv => lhs; rw [add_plain, add_plain]); (with_reducible assumption); rfl; (conv => whnf)) | (apply loads_at; (conv => lhs; whnf); (with_reducible assumption); rfl; (conv => whnf)) | (refine ⟨⟨by omega, by omega⟩, ?_⟩; (conv => whnf))))
  refine call_of (open_f h27 hM2.inn hD2 (hN.mono hF2) hf2) ?_
  rintro v F3 ⟨lb, E3, s3, rfl, hM3, hL3, hf3⟩
  have hF3 := hM3.keep hF2 hA2
  have hA3 := hM3.apart hF2 hA2
  have hE3 := hM3.inn
  obtain ⟨D3, d1, d2, d3⟩ := hL3.ext hE3
  have kw := dk_writes d2 d1
  rw [hf3.writes] at kw
  refine short [0, 3, 31] [.slice A l.length c, .pointer (some ⟨b, 0, none⟩), .tuple #[.pointer (some ⟨lb, 0, none⟩), .int .i64 0]] rfl fun ρ => ?_
  ((conv => whnf); repeat (first | (apply load_at; (conv => lhs; whnf); (with_reducible assumption); rfl; (conv => whnf)) | (apply load_at; (conv => lhs; rw [add_plain, add_plain]); (with_reducible assumption); rfl; (conv => whnf)) | (apply loads_at; (conv => lhs; whnf); (with_reducible assumption); rfl; (conv => whnf)) | (refine ⟨⟨by omega, by omega⟩, ?_⟩; (conv => whnf))))
  refine call_of kw ?_
  rintro v F3 ⟨rfl, rfl⟩
  ((conv => whnf); repeat (first | (apply load_at; (conv => lhs; whnf); (with_reducible assumption); rfl; (conv => whnf)) | (apply load_at; (conv => lhs; rw [add_plain, add_plain]); (with_reducible assumption); rfl; (conv => whnf)) | (apply loads_at; (conv => lhs; whnf); (with_reducible assumption); rfl; (conv => whnf)) | (refine ⟨⟨by omega, by omega⟩, ?_⟩; (conv => whnf))))
  refine call_of (some6 l 5 A c F3 (hr.mono hF3) (by omega)) ?_
  rintro v F4 ⟨⟨ps, B, bc, rfl, hB, hBf, hps, hpe⟩, hX4⟩
  obtain ⟨r1, r2, r3⟩ := side_gain hE3 hF3 hA3 hX4
  have rB : RowAt (gain F F3 F4) B (rowS pcC ps) := rowAt_gain hB hBf
  have rP : ∀ p ∈ ps, PcOk (gain F F3 F4) p := fun p hp => ⟨rowAt_gain (hps p hp).1.row (hps p hp).2, (hps p hp).1.len⟩
  have hI : Ims s3.size (1 + 1) (ps.map pcW) := by rw [hf3.size, hpe]; exact some_ims 5 l (by decide)
  have hpl := hI.len
  rw [hf3.size, pages27, List.length_map] at hpl
  refine short [0, 3, 5, 6, 7, 37] [.slice A l.length c, .pointer (some ⟨b, 0, none⟩), .pointer (some ⟨lb, 0, none⟩), .int .i64 0, .int .i64 1, .slice B ps.length bc] rfl fun ρ => ?_
  have fin : ∀ (F5 : Heap) (E5 : Heap) (s5 : DS) (q : Int) (m : Int), Moves E3 F4 E5 F5 → Lg E5 lb b s5 q → s5.size = 27 → s5.writes = m → (∀ G, Ext F5 G → FnK Tryd.prog 25 #[.pointer (some ⟨b, 0, none⟩)] G (fun v F' => v = .int .i64 m ∧ F' = G)) ∧ FnK Tryd.prog 20 #[.pointer (some ⟨lb, 0, none⟩)] F5 (fun v F' => v = .int .i64 13 ∧ F' = F5) := by
    intro F5 E5 s5 q m hM5 hL5 hs5 hw5
    obtain ⟨D5, e1, e2, e3⟩ := hL5.ext hM5.inn
    refine ⟨fun G hG => ?_, ?_⟩
    · have := dk_writes (e2.trans hG) e1
      rw [hw5] at this
      exact this
    · have := lgPages e2 e1 e3
      rw [hs5, pages27] at this
      exact this
  by_cases h0 : ps = []
  · subst h0
    ((conv => whnf); repeat (first | (apply load_at; (conv => lhs; whnf); (with_reducible assumption); rfl; (conv => whnf)) | (apply load_at; (conv => lhs; rw [add_plain, add_plain]); (with_reducible assumption); rfl; (conv => whnf)) | (apply loads_at; (conv => lhs; whnf); (with_reducible assumption); rfl; (conv => whnf)) | (refine ⟨⟨by omega, by omega⟩, ?_⟩; (conv => whnf))))
    refine call_of (commit_0 (hE3.trans hX4) hL3 r1 r2 (hN.mono r3) B bc (by rw [hf3.writes]; omega)) ?_
    rintro v F5 ⟨rfl, E5, hM5, hL5⟩
    obtain ⟨k1, k2⟩ := fin F5 E5 s3 1 1 hM5 hL5 hf3.size hf3.writes
    have hF5 := r3.trans (hM5.keep r1 r2)
    refine short [0, 3, 5, 7, 8, 44, 47] [.slice A l.length c, .pointer (some ⟨b, 0, none⟩), .pointer (some ⟨lb, 0, none⟩), .int .i64 1, .slice B 0 bc, .bool false, .int .i64 0] rfl fun ρ => ?_
    ((conv => whnf); repeat (first | (apply load_at; (conv => lhs; whnf); (with_reducible assumption); rfl; (conv => whnf)) | (apply load_at; (conv => lhs; rw [add_plain, add_plain]); (with_reducible assumption); rfl; (conv => whnf)) | (apply loads_at; (conv => lhs; whnf); (with_reducible assumption); rfl; (conv => whnf)) | (refine ⟨⟨by omega, by omega⟩, ?_⟩; (conv => whnf))))
    refine call_of (k1 F5 (Ext.refl _)) ?_
    rintro v F5 ⟨rfl, rfl⟩
    ((conv => whnf); repeat (first | (apply load_at; (conv => lhs; whnf); (with_reducible assumption); rfl; (conv => whnf)) | (apply load_at; (conv => lhs; rw [add_plain, add_plain]); (with_reducible assumption); rfl; (conv => whnf)) | (apply loads_at; (conv => lhs; whnf); (with_reducible assumption); rfl; (conv => whnf)) | (refine ⟨⟨by omega, by omega⟩, ?_⟩; (conv => whnf))))
    refine call_of k2 ?_
    rintro v F5 ⟨rfl, rfl⟩
    refine short [63, 65] [.bool true, .int .i64 13] rfl fun ρ => ?_
    ((conv => whnf); repeat (first | (apply load_at; (conv => lhs; whnf); (with_reducible assumption); rfl; (conv => whnf)) | (apply load_at; (conv => lhs; rw [add_plain, add_plain]); (with_reducible assumption); rfl; (conv => whnf)) | (apply loads_at; (conv => lhs; whnf); (with_reducible assumption); rfl; (conv => whnf)) | (refine ⟨⟨by omega, by omega⟩, ?_⟩; (conv => whnf))))
    refine call_of (rpages 27 F5) ?_
    rintro v F5 ⟨rfl, rfl⟩
    ((conv => whnf); repeat (first | (apply load_at; (conv => lhs; whnf); (with_reducible assumption); rfl; (conv => whnf)) | (apply load_at; (conv => lhs; rw [add_plain, add_plain]); (with_reducible assumption); rfl; (conv => whnf)) | (apply loads_at; (conv => lhs; whnf); (with_reducible assumption); rfl; (conv => whnf)) | (refine ⟨⟨by omega, by omega⟩, ?_⟩; (conv => whnf))))
    refine call_of (out F5 hF5) ?_
    rintro v F9 ⟨rfl, hE⟩
    ((conv => whnf); repeat (first | (apply load_at; (conv => lhs; whnf); (with_reducible assumption); rfl; (conv => whnf)) | (apply load_at; (conv => lhs; rw [add_plain, add_plain]); (with_reducible assumption); rfl; (conv => whnf)) | (apply loads_at; (conv => lhs; whnf); (with_reducible assumption); rfl; (conv => whnf)) | (refine ⟨⟨by omega, by omega⟩, ?_⟩; (conv => whnf))))
    exact ⟨rfl, hE⟩
  · ((conv => whnf); repeat (first | (apply load_at; (conv => lhs; whnf); (with_reducible assumption); rfl; (conv => whnf)) | (apply load_at; (conv => lhs; rw [add_plain, add_plain]); (with_reducible assumption); rfl; (conv => whnf)) | (apply loads_at; (conv => lhs; whnf); (with_reducible assumption); rfl; (conv => whnf)) | (refine ⟨⟨by omega, by omega⟩, ?_⟩; (conv => whnf))))
    refine call_of (commit_n (hE3.trans hX4) hL3 r1 r2 (hN.mono r3) ps B bc rB rP (by rw [hf3.writes]; omega) hI h0 hf3.up) ?_
    rintro v F5 ⟨rfl, E5, s5, hM5, hL5, u5, w5, c5, z5, dn5, wr5⟩
    obtain ⟨k1, k2⟩ := fin F5 E5 s5 2 (1 + 2 * (ps.length : Int) + 1) hM5 hL5 (z5.trans hf3.size) (by rw [wr5, hf3.writes])
    have hF5 := r3.trans (hM5.keep r1 r2)
    have hp0 : 0 < ps.length := List.length_pos_iff.2 h0
    refine short [0, 3, 5, 7, 8, 44, 47] [.slice A l.length c, .pointer (some ⟨b, 0, none⟩), .pointer (some ⟨lb, 0, none⟩), .int .i64 1, .slice B ps.length bc, .bool false, .int .i64 0] rfl fun ρ => ?_
    ((conv => whnf); repeat (first | (apply load_at; (conv => lhs; whnf); (with_reducible assumption); rfl; (conv => whnf)) | (apply load_at; (conv => lhs; rw [add_plain, add_plain]); (with_reducible assumption); rfl; (conv => whnf)) | (apply loads_at; (conv => lhs; whnf); (with_reducible assumption); rfl; (conv => whnf)) | (refine ⟨⟨by omega, by omega⟩, ?_⟩; (conv => whnf))))
    refine cond_split (fun h => ?_) (fun h => ?_)
    · exact absurd (show ((ps.length : Int) == 0) = true from h) (by rw [beq_iff_eq]; omega)
    clear h
    have hww : IntKind.i64.wrap (IntKind.i64.wrap (2 * (ps.length : Int)) + 1) = 2 * (ps.length : Int) + 1 := by rw [wrap_eq (show -9223372036854775808 ≤ 2 * (ps.length : Int) by omega) (by omega), wrap_eq (by omega) (by omega)]
    ((conv => whnf); repeat (first | (apply load_at; (conv => lhs; whnf); (with_reducible assumption); rfl; (conv => whnf)) | (apply load_at; (conv => lhs; rw [add_plain, add_plain]); (with_reducible assumption); rfl; (conv => whnf)) | (apply loads_at; (conv => lhs; whnf); (with_reducible assumption); rfl; (conv => whnf)) | (refine ⟨⟨by omega, by omega⟩, ?_⟩; (conv => whnf))))
    refine call_of (k1 F5 (Ext.refl _)) ?_
    rintro v F5 ⟨rfl, rfl⟩
    refine short [5, 7, 9, 58] [.pointer (some ⟨lb, 0, none⟩), .int .i64 1, .int .i64 (2 * (ps.length : Int) + 1), .int .i64 (1 + 2 * (ps.length : Int) + 1)] (by rw [← hww]; rfl) fun ρ => ?_
    have heq : (IntKind.i64.wrap (1 + 2 * (ps.length : Int) + 1 - 1) == 2 * (ps.length : Int) + 1) = true := by
      rw [wrap_eq (by omega) (by omega), beq_iff_eq]
      omega
    ((conv => whnf); repeat (first | (apply load_at; (conv => lhs; whnf); (with_reducible assumption); rfl; (conv => whnf)) | (apply load_at; (conv => lhs; rw [add_plain, add_plain]); (with_reducible assumption); rfl; (conv => whnf)) | (apply loads_at; (conv => lhs; whnf); (with_reducible assumption); rfl; (conv => whnf)) | (refine ⟨⟨by omega, by omega⟩, ?_⟩; (conv => whnf))))
    rw [heq]
    ((conv => whnf); repeat (first | (apply load_at; (conv => lhs; whnf); (with_reducible assumption); rfl; (conv => whnf)) | (apply load_at; (conv => lhs; rw [add_plain, add_plain]); (with_reducible assumption); rfl; (conv => whnf)) | (apply loads_at; (conv => lhs; whnf); (with_reducible assumption); rfl; (conv => whnf)) | (refine ⟨⟨by omega, by omega⟩, ?_⟩; (conv => whnf))))
    refine call_of k2 ?_
    rintro v F5 ⟨rfl, rfl⟩
    refine short [63, 65] [.bool true, .int .i64 13] (by rw [← heq]; rfl) fun ρ => ?_
    ((conv => whnf); repeat (first | (apply load_at; (conv => lhs; whnf); (with_reducible assumption); rfl; (conv => whnf)) | (apply load_at; (conv => lhs; rw [add_plain, add_plain]); (with_reducible assumption); rfl; (conv => whnf)) | (apply loads_at; (conv => lhs; whnf); (with_reducible assumption); rfl; (conv => whnf)) | (refine ⟨⟨by omega, by omega⟩, ?_⟩; (conv => whnf))))
    refine call_of (rpages 27 F5) ?_
    rintro v F5 ⟨rfl, rfl⟩
    ((conv => whnf); repeat (first | (apply load_at; (conv => lhs; whnf); (with_reducible assumption); rfl; (conv => whnf)) | (apply load_at; (conv => lhs; rw [add_plain, add_plain]); (with_reducible assumption); rfl; (conv => whnf)) | (apply loads_at; (conv => lhs; whnf); (with_reducible assumption); rfl; (conv => whnf)) | (refine ⟨⟨by omega, by omega⟩, ?_⟩; (conv => whnf))))
    refine call_of (out F5 hF5) ?_
    rintro v F9 ⟨rfl, hE⟩
    ((conv => whnf); repeat (first | (apply load_at; (conv => lhs; whnf); (with_reducible assumption); rfl; (conv => whnf)) | (apply load_at; (conv => lhs; rw [add_plain, add_plain]); (with_reducible assumption); rfl; (conv => whnf)) | (apply loads_at; (conv => lhs; whnf); (with_reducible assumption); rfl; (conv => whnf)) | (refine ⟨⟨by omega, by omega⟩, ?_⟩; (conv => whnf))))
    exact ⟨rfl, hE⟩
end Go.Proofs.YtmpiggcooboenaaDoor.AlRedoWrites
