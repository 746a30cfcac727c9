/- strings.Builder's copy check and its String, as the evaluator takes them: of any program that bears the two bodies. -/
import Derived.Test.YtkakihmhmobgoaaGreatDoorXevZg
import Derived.Shelf.Strings.Builder1
namespace Go.Ev
open Go.Proofs Go.Shelf Go.RowKit

section
variable {ι : Emb} {w : World} {Z : Nat → Prop} {nx lo : Nat} {P : Program} {ρ : Ren} {gl : Nat → AV}

theorem VRs.one {v : AV} {us : List Value} (h : VRs ι w Z nx [v] us) : ∃ u, us = [u] ∧ VR ι w Z nx v u := by
  cases h with
  | cons _ _ u _ r h t => cases t; exact ⟨u, rfl, h⟩

/-- A block is let go. -/
theorem rel_gone {s : St} {w' : World} {j : Nat} {b : ABlk} (r : Rel ι w Z s.nx s.H.get) (hj : s.H.get j = some b) (hlo : lo ≤ j)
    (hk : ∀ k, k ≠ ι.blk j → w'.heap[k]? = w.heap[k]?) (hs : w'.heap.size = w.heap.size) (ho : w'.os = w.os) (ht : w'.tape = w.tape) (hu : w'.output = w.output) :
    Rel ι w' Z s.nx (s.H.del j).get ∧ Ext ι w Z s.nx lo s.H.get ι w' Z s.nx (s.H.del j).get := by
  have hnz := (r.blk j b hj).2.2.1
  have hz : ∀ k, Z k → Z k ∧ w'.heap[k]? = w.heap[k]? := fun k h => ⟨h, hk k (fun e => hnz (e ▸ h))⟩
  have hd : ∀ i x, (s.H.del j).get i = some x → s.H.get i = some x ∧ i ≠ j := by
    intro i x hx
    simp only [Tr.del, Tr.get_put] at hx
    split at hx
    · simp at hx
    · rename_i hne; exact ⟨hx, hne⟩
  refine ⟨⟨?_, fun a c x y hx hy hne => r.inj a c x y (hd a x hx).1 (hd c y hy).1 hne, fun k h => by rw [hs]; exact r.zlt k h⟩, .refl _ _, Nat.le_refl _, fun _ h => h, fun _ h => .inl h, ?_, Nat.le_of_eq hs.symm, ?_, ho, ht, hu⟩
  · intro i x hx
    obtain ⟨hx, hne⟩ := hd i x hx
    obtain ⟨h1, h2, h3, h4⟩ := r.blk i x hx
    have hb : ι.blk i ≠ ι.blk j := r.inj i j x b hx hj hne
    exact ⟨h1, by rw [hs]; exact h2, h3, h4.mono (.refl _ _) h1 hz (Nat.le_refl _) (hk _ hb)⟩
  · intro k _ hn
    exact hk k fun e => hn j hlo (by rw [hj]; rfl) e.symm
  · intro i hi
    obtain ⟨x, hx⟩ := Option.isSome_iff_exists.1 hi
    exact .inr ⟨i, by rw [(hd i x hx).1]; rfl, rfl, .inr rfl⟩

theorem own_check (L : Lays.n240 P ρ) (X : Builder.X72 P ρ) : OwnOk P gl (ρ.f 240) (.check (ρ.t 72)) := by
  intro lo args s out s' us ι w Z hev r _ hv
  unfold ownRun at hev
  split at hev
  · rename_i t id off heq
    cases heq
    obtain ⟨u, rfl, hu⟩ := hv.one
    split at hev
    · rename_i hlo
      obtain ⟨hlo, rfl⟩ := hlo
      split at hev
      · rename_i cs sz ex hrow
        split at hev
        · rename_i hty
          simp only [Bool.and_eq_true] at hty
          have hex : ex = 2 * (ρ.t 72 + 1) + 1 := Nat.eq_of_beq_eq_true hty.1
          have hcl : cs.length = 2 := Nat.eq_of_beq_eq_true hty.2
          obtain ⟨hid, hblt, hnz, hsz, c, el, fz, hh, hcs, hle, ⟨hexa, htag⟩, hfr, vs, hvs, hcell⟩ := r.blk id _ (row_some hrow)
          have key : ∀ (T e x : Nat), x = 2 * (T + 1) + 1 → 2 ≤ x ∧ x % 2 = 1 ∧ (x / 2 = e + 1 → e = T) := by omega
          obtain ⟨k1, k2, k3⟩ := key (ρ.t 72) el ex hex
          obtain ⟨hoff, hel⟩ := htag k1
          have hel : el = ρ.t 72 := k3 hel
          have hc2 : c.size = 2 := by have := hexa k2; omega
          subst hel
          have hvl := hvs.length
          cases hu with
          | ptr _ _ _ _ =>
            rw [hoff]
            have hsh : w.shape? (ι.blk id) = some (ρ.t 72, 2) := by simp [World.shape?, hh, hc2]
            have hfz : w.frozen? ⟨ι.blk id, 0, none⟩ = false := by
              unfold World.frozen?
              simp only [hh]
              have := hfr 0 (by omega)
              cases hb : (decide (fz.1 ≤ 0) && decide (0 < fz.2)) with
              | false => rfl
              | true => simp at hb; exact absurd (by simpa using hb) this
            have hat : ∀ x, vs[0]? = some x → w.cell? ⟨ι.blk id, 0, none⟩ = some x := by
              intro x hx
              unfold World.cell?
              simp only [hh]
              have := hcell 0 x hx
              rw [hoff] at this
              exact this
            split at hev
            · rename_i h0
              obtain ⟨x, hx, hxv⟩ := hvs.get h0
              cases hxv
              split at hev
              · rename_i cs' hov
                simp only [Option.some.injEq, Prod.mk.injEq] at hev
                obtain ⟨rfl, rfl⟩ := hev
                refine Calls.mono (Any.Builder_copyCheck_fresh L X (ι.blk id) w (hat _ hx) hsh hfz) ?_
                rintro e w' ⟨rfl, rfl⟩
                have hp : VRs ι w Z s.nx [.ptr id 0] [.pointer (some ⟨ι.blk id, 0, none⟩)] := by
                  have := VR.ptr (ι := ι) (w := w) (Z := Z) s.nx id 0 hid
                  rw [hoff] at this
                  exact .cons _ _ _ _ _ this (.nil _)
                obtain ⟨w', hrun, h1, h2⟩ := rel_write (P := P) (lo := lo) (off := 0) r hrow hlo hov hp (by rfl)
                have hw : w' = w.setCell ⟨ι.blk id, 0, none⟩ (.pointer (some ⟨ι.blk id, 0, none⟩)) := by
                  have hst : (store ⟨ι.blk id, 0, none⟩ (.pointer (some ⟨ι.blk id, 0, none⟩))).run P w = .ok () (w.setCell ⟨ι.blk id, 0, none⟩ (.pointer (some ⟨ι.blk id, 0, none⟩))) := by
                    simp [store, Sem.run, hat _ hx, hfz]
                  rw [hoff] at hrun
                  simp [storeCells, add_plain, hst] at hrun
                  exact hrun.symm
                rw [← hw]
                exact ⟨ι, Z, .ret _ _ (.tup _ _ _ (.nil _)), h1, h2⟩
              · simp at hev
            · rename_i i o h0
              split at hev
              · rename_i hio
                obtain ⟨rfl, rfl⟩ := hio
                simp only [Option.some.injEq, Prod.mk.injEq] at hev
                obtain ⟨rfl, rfl⟩ := hev
                obtain ⟨x, hx, hxv⟩ := hvs.get h0
                cases hxv
                have h0' := hat _ hx
                rw [hoff] at h0'
                refine Calls.mono (Any.Builder_copyCheck_used L X (ι.blk i) w h0') ?_
                rintro e w' ⟨rfl, rfl⟩
                exact ⟨ι, Z, .ret _ _ (.tup _ _ _ (.nil _)), r, .refl⟩
              · simp at hev
            · simp at hev
        · simp at hev
      · simp at hev
    · simp at hev
  · rename_i heq; cases heq
  · rename_i heq; cases heq
  · rename_i heq; cases heq
  · simp at hev

theorem bytesOf_cells : ∀ {c : List AV} {l : List Nat} {vs : List Value}, bytesOf c = some l → VRs ι w Z nx c vs → vs = Lib.byteCells (l.map (·.toUInt8)) ∧ ∀ n ∈ l, n < 256
  | [], l, vs, h, hv => by
    cases hv
    simp [bytesOf] at h
    subst h
    simp [Lib.byteCells]
  | a :: r, l, vs, h, hv => by
    unfold bytesOf at h
    split at h
    · rename_i heq; simp at heq
    · rename_i n r' heq
      simp only [List.cons.injEq] at heq
      obtain ⟨rfl, rfl⟩ := heq
      split at h
      · rename_i l' hlt hr
        simp only [Option.some.injEq] at h; subst h
        cases hv with
        | cons _ _ u _ us h1 h2 =>
          obtain ⟨rfl, hall⟩ := bytesOf_cells hr h2
          cases h1
          have hn : n < 256 := by simpa using hlt
          refine ⟨?_, fun m hm => (List.mem_cons.1 hm).elim (fun e => e ▸ hn) (fun h => hall m h)⟩
          have e1 : (n.toUInt8).toNat = n := by simp [Nat.toUInt8, Nat.mod_eq_of_lt hn]
          simp only [Lib.byteCells, List.map_cons]
          rw [e1]
          rfl
      · simp at h
    · simp at h

set_option maxRecDepth 100000 in
set_option maxHeartbeats 2000000 in
theorem text_row (L : Lays.n169 P ρ) (X : Builder.Extra P ρ) (b g cap : Nat) (cur : Array Value) (l : List UInt8) (w : World) (h0 : l ≠ []) (c0 : w.cell? ⟨b, 1, none⟩ = some (.slice (some ⟨g, 0, none⟩) l.length cap)) (hle : l.length ≤ cap) (fz : Nat × Nat)
    (hg : w.heap[g]? = some (.cells cur (ρ.t 5) fz)) (hn : l.length ≤ cur.size) (h63 : l.length ≤ 9223372036854775807) (hcell : ∀ j x, l[j]? = some x → w.cell? ((⟨g, 0, none⟩ : Addr).add j) = some (.int .u8 x.toNat)) :
    Calls P (ρ.f 169) #[.pointer (some ⟨b, 0, none⟩)] w fun e w' => e = .returned (.string ⟨l.toArray⟩) ∧ w' = w.drew.freeze ⟨g, 0, none⟩ l.length := by
  have hl0 : l.length ≠ 0 := by simpa using h0
  have c1 : w.drew.cell? ⟨b, 1, none⟩ = some (.slice (some ⟨g, 0, none⟩) l.length cap) := c0
  have hSD : (Builtin.unsafeSliceData_ #[(ρ.t 37)] (ρ.t 127) #[.slice (some ⟨g, 0, none⟩) l.length cap]).run P w.drew = .ok (.pointer (some ⟨g, 0, none⟩)) w.drew :=
    Lib.run_unsafeSliceData_row _ _ _ _ _ _ (by omega)
  have hUS : (Builtin.unsafeString_ #[(ρ.t 127), (ρ.t 3)] (ρ.t 9) #[.pointer (some ⟨g, 0, none⟩), .int .i64 l.length]).run P w.drew = .ok (.string ⟨l.toArray⟩) (w.drew.freeze ⟨g, 0, none⟩ l.length) :=
    Lib.run_unsafeString_row w.drew (ρ.t 127) (ρ.t 3) (ρ.t 9) (ρ.t 5) L.t127 X.cellsByte g cur.size (by have hg' : w.drew.heap[g]? = some (.cells cur (ρ.t 5) fz) := hg; simp [World.shape?, hg']) l h0 hn h63 hcell
  have mixed := L.mixed
  have t72 := L.t72; have a72 := L.a72; have z72 := L.z72; have v72 := L.v72; have u72 := run_underlying L.t72
  have t70 := L.t70; have a70 := L.a70; have z70 := L.z70; have v70 := L.v70; have u70 := run_underlying L.t70
  have t37 := L.t37; have a37 := L.a37; have z37 := L.z37; have v37 := L.v37; have u37 := run_underlying L.t37
  have t127 := L.t127; have a127 := L.a127; have z127 := L.z127; have v127 := L.v127; have u127 := run_underlying L.t127
  have t3 := L.t3; have a3 := L.a3; have z3 := L.z3; have v3 := L.v3; have u3 := run_underlying L.t3
  have t9 := L.t9; have a9 := L.a9; have z9 := L.z9; have v9 := L.v9; have u9 := run_underlying L.t9
  have t5 := X.t5; have a5 := X.a5; have z5 := X.z5; have v5 := X.v5; have u5 := run_underlying X.t5
  go_enter L.f169, Body.n169_ntmps ρ
  go_wp2
  go_region_o
  all_goals (go_wp2; go_ret; exact ⟨rfl, rfl⟩)

set_option maxRecDepth 100000 in
set_option maxHeartbeats 2000000 in
theorem text_nil (L : Lays.n169 P ρ) (X : Builder.Extra P ρ) (b : Nat) (w : World) (c0 : w.cell? ⟨b, 1, none⟩ = some (.slice none 0 0)) :
    Calls P (ρ.f 169) #[.pointer (some ⟨b, 0, none⟩)] w fun e w' => e = .returned (.string ⟨#[]⟩) ∧ w' = w.drew := by
  have hUS := Any.unsafeString_none L X
  have c1 : w.drew.cell? ⟨b, 1, none⟩ = some (.slice none 0 0) := c0
  have hSD : (Builtin.unsafeSliceData_ #[(ρ.t 37)] (ρ.t 127) #[.slice none 0 0]).run P w.drew = .ok (.pointer none) w.drew := rfl
  have mixed := L.mixed
  have t72 := L.t72; have a72 := L.a72; have z72 := L.z72; have v72 := L.v72; have u72 := run_underlying L.t72
  have t70 := L.t70; have a70 := L.a70; have z70 := L.z70; have v70 := L.v70; have u70 := run_underlying L.t70
  have t37 := L.t37; have a37 := L.a37; have z37 := L.z37; have v37 := L.v37; have u37 := run_underlying L.t37
  have t127 := L.t127; have a127 := L.a127; have z127 := L.z127; have v127 := L.v127; have u127 := run_underlying L.t127
  have t3 := L.t3; have a3 := L.a3; have z3 := L.z3; have v3 := L.v3; have u3 := run_underlying L.t3
  have t9 := L.t9; have a9 := L.a9; have z9 := L.z9; have v9 := L.v9; have u9 := run_underlying L.t9
  have t5 := X.t5; have a5 := X.a5; have z5 := X.z5; have v5 := X.v5; have u5 := run_underlying X.t5
  go_enter L.f169, Body.n169_ntmps ρ
  go_wp2
  go_region_o
  all_goals (go_wp2; go_ret; exact ⟨rfl, rfl⟩)

theorem own_text (L : Lays.n169 P ρ) (X : Builder.Extra P ρ) : OwnOk P gl (ρ.f 169) (.text (ρ.t 5)) := by
  intro lo args s out s' us ι w Z hev r _ hv
  unfold ownRun at hev
  split at hev
  · rename_i heq; cases heq
  · rename_i t id off heq
    cases heq
    obtain ⟨u, rfl, hu⟩ := hv.one
    split at hev
    · rename_i cs sz ex hrow
      split at hev
      · rename_i hty
        simp only [Bool.and_eq_true] at hty
        have hex : 2 ≤ ex := Nat.le_of_ble_eq_true hty.1
        have h0 : off = 0 := Nat.eq_of_beq_eq_true hty.2
        subst h0
        obtain ⟨hid, hblt, hnz, hsz, c, el, fz, hh, hcs, hle, ⟨hexa, htag⟩, hfr, vs, hvs, hcell⟩ := r.blk id _ (row_some hrow)
        obtain ⟨hoff, _⟩ := htag hex
        have hat : ∀ x, vs[0 + 1]? = some x → w.cell? ⟨ι.blk id, 1, none⟩ = some x := by
          intro x hx
          unfold World.cell?
          simp only [hh]
          have := hcell (0 + 1) x hx
          rw [hoff] at this
          exact this
        cases hu with
        | ptr _ _ _ _ =>
          rw [hoff]
          split at hev
          · rename_i h1
            obtain ⟨x, hx, hxv⟩ := hvs.get h1
            cases hxv
            simp only [Option.some.injEq, Prod.mk.injEq] at hev
            obtain ⟨rfl, rfl⟩ := hev
            refine Calls.mono (text_nil L X (ι.blk id) w (hat _ hx)) ?_
            rintro e w' ⟨rfl, rfl⟩
            have := VR.str (ι := ι) (w := w.drew) (Z := Z) s.nx ⟨#[]⟩
            exact ⟨ι, Z, .ret _ _ this, r.drew, ⟨.refl _ _, Nat.le_refl _, fun _ h => h, fun _ h => .inl h, fun _ _ _ => rfl, Nat.le_refl _, fun id h => .inr ⟨id, h, rfl, .inr rfl⟩, rfl, rfl, rfl⟩⟩
          · rename_i j o len h1
            split at hev
            · rename_i hc
              obtain ⟨hlo, rfl, hlen, hlen2, htag2⟩ := hc
              split at hev
              · rename_i cc hcc
                split at hev
                · rename_i l hl
                  simp only [Option.some.injEq, Prod.mk.injEq] at hev
                  obtain ⟨rfl, rfl⟩ := hev
                  simp only [cellsOf] at hcc
                  split at hcc
                  · rename_i cs2 z2 ex2 hrow2
                    split at hcc
                    · rename_i hz2
                      have hz2' : z2 = 1 := Nat.eq_of_beq_eq_true hz2
                      subst hz2'
                      obtain ⟨rfl, hcl⟩ := cut_some hcc
                      obtain ⟨hidj, hbltj, hnzj, hszj, c2, el2, fz2, hh2, hcs2, hle2, ⟨_, htagj⟩, hfr2, vs2, hvs2, hcell2⟩ := r.blk j _ (row_some hrow2)
                      have htj : 2 * (ex2 / 2) = 2 * (ρ.t 5 + 1) := by
                        unfold rowTag at htag2
                        rw [hrow2] at htag2
                        exact Nat.eq_of_beq_eq_true htag2
                      have key : ∀ (T e x : Nat), 2 * (x / 2) = 2 * (T + 1) → 2 ≤ x ∧ (x / 2 = e + 1 → e = T) := by omega
                      obtain ⟨k1, k2⟩ := key (ρ.t 5) el2 ex2 htj
                      obtain ⟨hoffj, helj⟩ := htagj k1
                      have helj : el2 = ρ.t 5 := k2 helj
                      subst helj
                      have hsub := (hvs2.drop 0).take (len * 1)
                      obtain ⟨hbc, hlt⟩ := bytesOf_cells hl hsub
                      have hll : l.length = len := by
                        have h3 := hsub.length
                        rw [hbc, hcl, Lib.byteCells_length, List.length_map] at h3
                        omega
                      have hl2 := hvs2.length
                      simp only [List.drop_zero, Nat.mul_one] at hbc hcl hsub
                      have hlec : len ≤ cs2.length := by
                        have := hcl
                        simp only [List.length_take] at this
                        omega
                      obtain ⟨x, hx, hxv⟩ := hvs.get h1
                      have hx1 := hat _ hx
                      have hmain : ∀ cap, len ≤ cap → w.cell? ⟨ι.blk id, 1, none⟩ = some (.slice (some ⟨ι.blk j, 0, none⟩) len cap) → Calls P (ρ.f 169) #[.pointer (some ⟨ι.blk id, 0, none⟩)] w (PostC lo ι w Z s (.ret (.str l)) { s with H := s.H.del j }) := by
                        intro cap hcap hc1
                        have hcells : ∀ k y, (l.map (·.toUInt8))[k]? = some y → w.cell? ((⟨ι.blk j, 0, none⟩ : Addr).add k) = some (.int .u8 y.toNat) := by
                          intro k y hk
                          rw [add_plain]
                          have hv : vs2[k]? = some (.int .u8 y.toNat) := by
                            have h4 : (vs2.take len)[k]? = some (.int .u8 y.toNat) := by
                              rw [hbc]
                              simp only [Lib.byteCells, List.getElem?_map, hk, Option.map_some]
                            rw [List.getElem?_take] at h4
                            split at h4
                            · exact h4
                            · simp at h4
                          unfold World.cell?
                          simp only [hh2]
                          have := hcell2 k _ hv
                          rw [hoffj] at this
                          exact this
                        refine Calls.mono (text_row L X (ι.blk id) (ι.blk j) cap c2 (l.map (·.toUInt8)) w ?_ ?_ ?_ fz2 hh2 ?_ ?_ hcells) ?_
                        · intro e
                          have := congrArg List.length e
                          rw [List.length_map, List.length_nil] at this
                          omega
                        · rw [List.length_map, hll]; exact hc1
                        · rw [List.length_map, hll]; exact hcap
                        · rw [List.length_map]; omega
                        · rw [List.length_map]; omega
                        · rintro e w' ⟨rfl, rfl⟩
                          have hfz : (w.drew.freeze ⟨ι.blk j, 0, none⟩ (l.map (·.toUInt8)).length).heap = w.heap.modify (ι.blk j) fun
                              | .cells c elem (a, b) => .cells c elem (if a == b then (0, 0 + (l.map (·.toUInt8)).length) else (min a 0, max b (0 + (l.map (·.toUInt8)).length)))
                              | o => o := by
                            unfold World.freeze
                            rw [if_neg (by rw [List.length_map]; omega)]
                            rfl
                          obtain ⟨h5, h6⟩ := rel_gone (lo := lo) (w' := w.drew.freeze ⟨ι.blk j, 0, none⟩ (l.map (·.toUInt8)).length) r (row_some hrow2) hlo (fun k hk => by rw [hfz, Array.getElem?_modify, if_neg (fun e => hk e.symm)]) (by rw [hfz]; simp)
                            (by unfold World.freeze; split <;> rfl) (by unfold World.freeze; split <;> rfl) (by unfold World.freeze; split <;> rfl)
                          have hstr : (⟨(l.map (·.toUInt8)).toArray⟩ : ByteArray).data.toList.map (·.toNat) = l := by
                            simp only [List.map_map]
                            have : ∀ n ∈ l, ((fun x : UInt8 => x.toNat) ∘ (·.toUInt8)) n = n := fun n hn => by
                              simp [Nat.toUInt8, Nat.mod_eq_of_lt (hlt n hn)]
                            rw [List.map_congr_left this]
                            simp
                          have := VR.str (ι := ι) (w := w.drew.freeze ⟨ι.blk j, 0, none⟩ (l.map (·.toUInt8)).length) (Z := Z) s.nx ⟨(l.map (·.toUInt8)).toArray⟩
                          rw [hstr] at this
                          exact ⟨ι, Z, .ret _ _ this, h5, h6⟩
                      cases hxv with
                      | sl _ _ _ _ cap _ hlc hcap =>
                        rw [hoffj] at hx1
                        exact hmain cap hlc hx1
                      | sl0 => omega
                    · simp at hcc
                  · simp at hcc
                · simp at hev
              · simp at hev
            · simp at hev
          · simp at hev
      · simp at hev
    · simp at hev
  · rename_i heq; cases heq
  · rename_i heq; cases heq
  · simp at hev
end
end Go.Ev
