/- Plain twins of functions, with their contracts. Printed by a program of this session. -/
import Derived.Test.YtplcjfnobdlkeaaR1F0
set_option linter.unusedVariables false
namespace Go.Proofs.Ytplcjfnobdlkeaa.R
open Go.Proofs.Ytplcjfnobdlkeaa.R1
/-! impl.stacker).place -/
def f31_l2 {ρ : Type} (k : Nat) : Nat → (List Int) → Int → Int → Int → Bool → Bool → Bool → Bool → Bool → (List Int) → (List Int) → (List Int) → (List Int) → (List Int) → (List (Int × Int)) → (List (Int × Int)) → (List (Int × Int)) → (List (Int × Int)) → (List (Int × Int)) → Int → (((Unit × ((Int × Bool × Bool × Bool × Bool × Bool × (List Int) × (List Int) × (List Int) × (List Int) × (List Int) × (Unit × Unit) × Unit) × (List (Int × Int)) × (List (Int × Int)) × (List (Int × Int)) × (List (Int × Int)) × (List (Int × Int)) × (Int × Unit) × Unit)) → Option ρ) × (((Bool × Unit) × ((Int × Bool × Bool × Bool × Bool × Bool × (List Int) × (List Int) × (List Int) × (List Int) × (List Int) × (Unit × Unit) × Unit) × (List (Int × Int)) × (List (Int × Int)) × (List (Int × Int)) × (List (Int × Int)) × (List (Int × Int)) × (Int × Unit) × Unit)) → Option ρ) × Unit) → Option ρ
  | 0, _, _, _, _, _, _, _, _, _, _, _, _, _, _, _, _, _, _, _, _, _ => none
  | j + 1, v130, v131, v132, v133, v134, v135, v136, v137, v138, v139, v140, v141, v142, v143, v144, v145, v146, v147, v148, v149, nx =>
    bif (decide (v132 ≤ 4)) then
      bif decide (v132 = 0) then
        let x234 : (Option Int) := (mapGet (fun (a b : Int) => a == b) v131 v144)
        bif decide (v132 = 0) then
          bif (!x234.isSome) then
            f31_l2 k j v130 v131 (wr .i64 (v132 + 1)) v133 v134 v135 v136 v137 v138 v139 v140 v141 v142 v143 v144 v145 v146 v147 v148 v149 nx
          else
            (f30 k v130 (x234.getD 0)).bind fun x251 =>
            bif (!x251.1.1) then
              (f32 k v139).bind fun x252 =>
              bif decide ((x252.2.1.length + [v131].length) * 8 ≤ roomy) then
                bif decide (v132 = 0) then
                  f31_l2 k j v130 v131 (wr .i64 (v132 + 1)) v133 v134 v135 v136 v137 v138 (x252.2.1 ++ [v131]) v140 v141 v142 v143 v144 v145 v146 v147 v148 v149 nx
                else
                  bif decide (v132 = 1) then
                    f31_l2 k j v130 v131 (wr .i64 (v132 + 1)) v133 v134 v135 v136 v137 v138 v139 (x252.2.1 ++ [v131]) v141 v142 v143 v144 v145 v146 v147 v148 v149 nx
                  else
                    bif decide (v132 = 2) then
                      f31_l2 k j v130 v131 (wr .i64 (v132 + 1)) v133 v134 v135 v136 v137 v138 v139 v140 (x252.2.1 ++ [v131]) v142 v143 v144 v145 v146 v147 v148 v149 nx
                    else
                      bif decide (v132 = 3) then
                        f31_l2 k j v130 v131 (wr .i64 (v132 + 1)) v133 v134 v135 v136 v137 v138 v139 v140 v141 (x252.2.1 ++ [v131]) v143 v144 v145 v146 v147 v148 v149 nx
                      else
                        bif decide (v132 = 4) then
                          f31_l2 k j v130 v131 (wr .i64 (v132 + 1)) v133 v134 v135 v136 v137 v138 v139 v140 v141 v142 (x252.2.1 ++ [v131]) v144 v145 v146 v147 v148 v149 nx
                        else
                          none
              else
                none
            else
              (getI v139 (wr .i64 ((v139.length : Int) - 1))).bind fun x253 =>
              bif (x253 != (x234.getD 0)) then
                nx.2.1 ((false, ()), ((v133, v134, v135, v136, v137, v138, v139, v140, v141, v142, v143, ((), ()), ()), v144, v145, v146, v147, v148, (v149, ()), ()))
              else
                bif decide (0 ≤ 0) && decide (0 ≤ (wr .i64 ((v139.length : Int) - 1))) && decide ((wr .i64 ((v139.length : Int) - 1)) ≤ (v139.length : Int)) then
                  let x254 : (List Int) := (sub v139 0 (wr .i64 ((v139.length : Int) - 1)))
                  bif decide (v132 = 0) then
                    f31_l2 k j v130 v131 (wr .i64 (v132 + 1)) v133 v134 v135 v136 v137 v138 x254 v140 v141 v142 v143 v144 v145 v146 v147 v148 v149 nx
                  else
                    bif decide (v132 = 1) then
                      f31_l2 k j v130 v131 (wr .i64 (v132 + 1)) v133 v134 v135 v136 v137 v138 v139 x254 v141 v142 v143 v144 v145 v146 v147 v148 v149 nx
                    else
                      bif decide (v132 = 2) then
                        f31_l2 k j v130 v131 (wr .i64 (v132 + 1)) v133 v134 v135 v136 v137 v138 v139 v140 x254 v142 v143 v144 v145 v146 v147 v148 v149 nx
                      else
                        bif decide (v132 = 3) then
                          f31_l2 k j v130 v131 (wr .i64 (v132 + 1)) v133 v134 v135 v136 v137 v138 v139 v140 v141 x254 v143 v144 v145 v146 v147 v148 v149 nx
                        else
                          bif decide (v132 = 4) then
                            f31_l2 k j v130 v131 (wr .i64 (v132 + 1)) v133 v134 v135 v136 v137 v138 v139 v140 v141 v142 x254 v144 v145 v146 v147 v148 v149 nx
                          else
                            none
                else
                  none
        else
          bif decide (v132 = 1) then
            bif (!x234.isSome) then
              f31_l2 k j v130 v131 (wr .i64 (v132 + 1)) v133 v134 v135 v136 v137 v138 v139 v140 v141 v142 v143 v144 v145 v146 v147 v148 v149 nx
            else
              (f30 k v130 (x234.getD 0)).bind fun x247 =>
              bif (!x247.1.1) then
                (f32 k v140).bind fun x248 =>
                bif decide ((x248.2.1.length + [v131].length) * 8 ≤ roomy) then
                  bif decide (v132 = 0) then
                    f31_l2 k j v130 v131 (wr .i64 (v132 + 1)) v133 v134 v135 v136 v137 v138 (x248.2.1 ++ [v131]) v140 v141 v142 v143 v144 v145 v146 v147 v148 v149 nx
                  else
                    bif decide (v132 = 1) then
                      f31_l2 k j v130 v131 (wr .i64 (v132 + 1)) v133 v134 v135 v136 v137 v138 v139 (x248.2.1 ++ [v131]) v141 v142 v143 v144 v145 v146 v147 v148 v149 nx
                    else
                      bif decide (v132 = 2) then
                        f31_l2 k j v130 v131 (wr .i64 (v132 + 1)) v133 v134 v135 v136 v137 v138 v139 v140 (x248.2.1 ++ [v131]) v142 v143 v144 v145 v146 v147 v148 v149 nx
                      else
                        bif decide (v132 = 3) then
                          f31_l2 k j v130 v131 (wr .i64 (v132 + 1)) v133 v134 v135 v136 v137 v138 v139 v140 v141 (x248.2.1 ++ [v131]) v143 v144 v145 v146 v147 v148 v149 nx
                        else
                          bif decide (v132 = 4) then
                            f31_l2 k j v130 v131 (wr .i64 (v132 + 1)) v133 v134 v135 v136 v137 v138 v139 v140 v141 v142 (x248.2.1 ++ [v131]) v144 v145 v146 v147 v148 v149 nx
                          else
                            none
                else
                  none
              else
                (getI v140 (wr .i64 ((v140.length : Int) - 1))).bind fun x249 =>
                bif (x249 != (x234.getD 0)) then
                  nx.2.1 ((false, ()), ((v133, v134, v135, v136, v137, v138, v139, v140, v141, v142, v143, ((), ()), ()), v144, v145, v146, v147, v148, (v149, ()), ()))
                else
                  bif decide (0 ≤ 0) && decide (0 ≤ (wr .i64 ((v140.length : Int) - 1))) && decide ((wr .i64 ((v140.length : Int) - 1)) ≤ (v140.length : Int)) then
                    let x250 : (List Int) := (sub v140 0 (wr .i64 ((v140.length : Int) - 1)))
                    bif decide (v132 = 0) then
                      f31_l2 k j v130 v131 (wr .i64 (v132 + 1)) v133 v134 v135 v136 v137 v138 x250 v140 v141 v142 v143 v144 v145 v146 v147 v148 v149 nx
                    else
                      bif decide (v132 = 1) then
                        f31_l2 k j v130 v131 (wr .i64 (v132 + 1)) v133 v134 v135 v136 v137 v138 v139 x250 v141 v142 v143 v144 v145 v146 v147 v148 v149 nx
                      else
                        bif decide (v132 = 2) then
                          f31_l2 k j v130 v131 (wr .i64 (v132 + 1)) v133 v134 v135 v136 v137 v138 v139 v140 x250 v142 v143 v144 v145 v146 v147 v148 v149 nx
                        else
                          bif decide (v132 = 3) then
                            f31_l2 k j v130 v131 (wr .i64 (v132 + 1)) v133 v134 v135 v136 v137 v138 v139 v140 v141 x250 v143 v144 v145 v146 v147 v148 v149 nx
                          else
                            bif decide (v132 = 4) then
                              f31_l2 k j v130 v131 (wr .i64 (v132 + 1)) v133 v134 v135 v136 v137 v138 v139 v140 v141 v142 x250 v144 v145 v146 v147 v148 v149 nx
                            else
                              none
                  else
                    none
          else
            bif decide (v132 = 2) then
              bif (!x234.isSome) then
                f31_l2 k j v130 v131 (wr .i64 (v132 + 1)) v133 v134 v135 v136 v137 v138 v139 v140 v141 v142 v143 v144 v145 v146 v147 v148 v149 nx
              else
                (f30 k v130 (x234.getD 0)).bind fun x243 =>
                bif (!x243.1.1) then
                  (f32 k v141).bind fun x244 =>
                  bif decide ((x244.2.1.length + [v131].length) * 8 ≤ roomy) then
                    bif decide (v132 = 0) then
                      f31_l2 k j v130 v131 (wr .i64 (v132 + 1)) v133 v134 v135 v136 v137 v138 (x244.2.1 ++ [v131]) v140 v141 v142 v143 v144 v145 v146 v147 v148 v149 nx
                    else
                      bif decide (v132 = 1) then
                        f31_l2 k j v130 v131 (wr .i64 (v132 + 1)) v133 v134 v135 v136 v137 v138 v139 (x244.2.1 ++ [v131]) v141 v142 v143 v144 v145 v146 v147 v148 v149 nx
                      else
                        bif decide (v132 = 2) then
                          f31_l2 k j v130 v131 (wr .i64 (v132 + 1)) v133 v134 v135 v136 v137 v138 v139 v140 (x244.2.1 ++ [v131]) v142 v143 v144 v145 v146 v147 v148 v149 nx
                        else
                          bif decide (v132 = 3) then
                            f31_l2 k j v130 v131 (wr .i64 (v132 + 1)) v133 v134 v135 v136 v137 v138 v139 v140 v141 (x244.2.1 ++ [v131]) v143 v144 v145 v146 v147 v148 v149 nx
                          else
                            bif decide (v132 = 4) then
                              f31_l2 k j v130 v131 (wr .i64 (v132 + 1)) v133 v134 v135 v136 v137 v138 v139 v140 v141 v142 (x244.2.1 ++ [v131]) v144 v145 v146 v147 v148 v149 nx
                            else
                              none
                  else
                    none
                else
                  (getI v141 (wr .i64 ((v141.length : Int) - 1))).bind fun x245 =>
                  bif (x245 != (x234.getD 0)) then
                    nx.2.1 ((false, ()), ((v133, v134, v135, v136, v137, v138, v139, v140, v141, v142, v143, ((), ()), ()), v144, v145, v146, v147, v148, (v149, ()), ()))
                  else
                    bif decide (0 ≤ 0) && decide (0 ≤ (wr .i64 ((v141.length : Int) - 1))) && decide ((wr .i64 ((v141.length : Int) - 1)) ≤ (v141.length : Int)) then
                      let x246 : (List Int) := (sub v141 0 (wr .i64 ((v141.length : Int) - 1)))
                      bif decide (v132 = 0) then
                        f31_l2 k j v130 v131 (wr .i64 (v132 + 1)) v133 v134 v135 v136 v137 v138 x246 v140 v141 v142 v143 v144 v145 v146 v147 v148 v149 nx
                      else
                        bif decide (v132 = 1) then
                          f31_l2 k j v130 v131 (wr .i64 (v132 + 1)) v133 v134 v135 v136 v137 v138 v139 x246 v141 v142 v143 v144 v145 v146 v147 v148 v149 nx
                        else
                          bif decide (v132 = 2) then
                            f31_l2 k j v130 v131 (wr .i64 (v132 + 1)) v133 v134 v135 v136 v137 v138 v139 v140 x246 v142 v143 v144 v145 v146 v147 v148 v149 nx
                          else
                            bif decide (v132 = 3) then
                              f31_l2 k j v130 v131 (wr .i64 (v132 + 1)) v133 v134 v135 v136 v137 v138 v139 v140 v141 x246 v143 v144 v145 v146 v147 v148 v149 nx
                            else
                              bif decide (v132 = 4) then
                                f31_l2 k j v130 v131 (wr .i64 (v132 + 1)) v133 v134 v135 v136 v137 v138 v139 v140 v141 v142 x246 v144 v145 v146 v147 v148 v149 nx
                              else
                                none
                    else
                      none
            else
              bif decide (v132 = 3) then
                bif (!x234.isSome) then
                  f31_l2 k j v130 v131 (wr .i64 (v132 + 1)) v133 v134 v135 v136 v137 v138 v139 v140 v141 v142 v143 v144 v145 v146 v147 v148 v149 nx
                else
                  (f30 k v130 (x234.getD 0)).bind fun x239 =>
                  bif (!x239.1.1) then
                    (f32 k v142).bind fun x240 =>
                    bif decide ((x240.2.1.length + [v131].length) * 8 ≤ roomy) then
                      bif decide (v132 = 0) then
                        f31_l2 k j v130 v131 (wr .i64 (v132 + 1)) v133 v134 v135 v136 v137 v138 (x240.2.1 ++ [v131]) v140 v141 v142 v143 v144 v145 v146 v147 v148 v149 nx
                      else
                        bif decide (v132 = 1) then
                          f31_l2 k j v130 v131 (wr .i64 (v132 + 1)) v133 v134 v135 v136 v137 v138 v139 (x240.2.1 ++ [v131]) v141 v142 v143 v144 v145 v146 v147 v148 v149 nx
                        else
                          bif decide (v132 = 2) then
                            f31_l2 k j v130 v131 (wr .i64 (v132 + 1)) v133 v134 v135 v136 v137 v138 v139 v140 (x240.2.1 ++ [v131]) v142 v143 v144 v145 v146 v147 v148 v149 nx
                          else
                            bif decide (v132 = 3) then
                              f31_l2 k j v130 v131 (wr .i64 (v132 + 1)) v133 v134 v135 v136 v137 v138 v139 v140 v141 (x240.2.1 ++ [v131]) v143 v144 v145 v146 v147 v148 v149 nx
                            else
                              bif decide (v132 = 4) then
                                f31_l2 k j v130 v131 (wr .i64 (v132 + 1)) v133 v134 v135 v136 v137 v138 v139 v140 v141 v142 (x240.2.1 ++ [v131]) v144 v145 v146 v147 v148 v149 nx
                              else
                                none
                    else
                      none
                  else
                    (getI v142 (wr .i64 ((v142.length : Int) - 1))).bind fun x241 =>
                    bif (x241 != (x234.getD 0)) then
                      nx.2.1 ((false, ()), ((v133, v134, v135, v136, v137, v138, v139, v140, v141, v142, v143, ((), ()), ()), v144, v145, v146, v147, v148, (v149, ()), ()))
                    else
                      bif decide (0 ≤ 0) && decide (0 ≤ (wr .i64 ((v142.length : Int) - 1))) && decide ((wr .i64 ((v142.length : Int) - 1)) ≤ (v142.length : Int)) then
                        let x242 : (List Int) := (sub v142 0 (wr .i64 ((v142.length : Int) - 1)))
                        bif decide (v132 = 0) then
                          f31_l2 k j v130 v131 (wr .i64 (v132 + 1)) v133 v134 v135 v136 v137 v138 x242 v140 v141 v142 v143 v144 v145 v146 v147 v148 v149 nx
                        else
                          bif decide (v132 = 1) then
                            f31_l2 k j v130 v131 (wr .i64 (v132 + 1)) v133 v134 v135 v136 v137 v138 v139 x242 v141 v142 v143 v144 v145 v146 v147 v148 v149 nx
                          else
                            bif decide (v132 = 2) then
                              f31_l2 k j v130 v131 (wr .i64 (v132 + 1)) v133 v134 v135 v136 v137 v138 v139 v140 x242 v142 v143 v144 v145 v146 v147 v148 v149 nx
                            else
                              bif decide (v132 = 3) then
                                f31_l2 k j v130 v131 (wr .i64 (v132 + 1)) v133 v134 v135 v136 v137 v138 v139 v140 v141 x242 v143 v144 v145 v146 v147 v148 v149 nx
                              else
                                bif decide (v132 = 4) then
                                  f31_l2 k j v130 v131 (wr .i64 (v132 + 1)) v133 v134 v135 v136 v137 v138 v139 v140 v141 v142 x242 v144 v145 v146 v147 v148 v149 nx
                                else
                                  none
                      else
                        none
              else
                bif decide (v132 = 4) then
                  bif (!x234.isSome) then
                    f31_l2 k j v130 v131 (wr .i64 (v132 + 1)) v133 v134 v135 v136 v137 v138 v139 v140 v141 v142 v143 v144 v145 v146 v147 v148 v149 nx
                  else
                    (f30 k v130 (x234.getD 0)).bind fun x235 =>
                    bif (!x235.1.1) then
                      (f32 k v143).bind fun x236 =>
                      bif decide ((x236.2.1.length + [v131].length) * 8 ≤ roomy) then
                        bif decide (v132 = 0) then
                          f31_l2 k j v130 v131 (wr .i64 (v132 + 1)) v133 v134 v135 v136 v137 v138 (x236.2.1 ++ [v131]) v140 v141 v142 v143 v144 v145 v146 v147 v148 v149 nx
                        else
                          bif decide (v132 = 1) then
                            f31_l2 k j v130 v131 (wr .i64 (v132 + 1)) v133 v134 v135 v136 v137 v138 v139 (x236.2.1 ++ [v131]) v141 v142 v143 v144 v145 v146 v147 v148 v149 nx
                          else
                            bif decide (v132 = 2) then
                              f31_l2 k j v130 v131 (wr .i64 (v132 + 1)) v133 v134 v135 v136 v137 v138 v139 v140 (x236.2.1 ++ [v131]) v142 v143 v144 v145 v146 v147 v148 v149 nx
                            else
                              bif decide (v132 = 3) then
                                f31_l2 k j v130 v131 (wr .i64 (v132 + 1)) v133 v134 v135 v136 v137 v138 v139 v140 v141 (x236.2.1 ++ [v131]) v143 v144 v145 v146 v147 v148 v149 nx
                              else
                                bif decide (v132 = 4) then
                                  f31_l2 k j v130 v131 (wr .i64 (v132 + 1)) v133 v134 v135 v136 v137 v138 v139 v140 v141 v142 (x236.2.1 ++ [v131]) v144 v145 v146 v147 v148 v149 nx
                                else
                                  none
                      else
                        none
                    else
                      (getI v143 (wr .i64 ((v143.length : Int) - 1))).bind fun x237 =>
                      bif (x237 != (x234.getD 0)) then
                        nx.2.1 ((false, ()), ((v133, v134, v135, v136, v137, v138, v139, v140, v141, v142, v143, ((), ()), ()), v144, v145, v146, v147, v148, (v149, ()), ()))
                      else
                        bif decide (0 ≤ 0) && decide (0 ≤ (wr .i64 ((v143.length : Int) - 1))) && decide ((wr .i64 ((v143.length : Int) - 1)) ≤ (v143.length : Int)) then
                          let x238 : (List Int) := (sub v143 0 (wr .i64 ((v143.length : Int) - 1)))
                          bif decide (v132 = 0) then
                            f31_l2 k j v130 v131 (wr .i64 (v132 + 1)) v133 v134 v135 v136 v137 v138 x238 v140 v141 v142 v143 v144 v145 v146 v147 v148 v149 nx
                          else
                            bif decide (v132 = 1) then
                              f31_l2 k j v130 v131 (wr .i64 (v132 + 1)) v133 v134 v135 v136 v137 v138 v139 x238 v141 v142 v143 v144 v145 v146 v147 v148 v149 nx
                            else
                              bif decide (v132 = 2) then
                                f31_l2 k j v130 v131 (wr .i64 (v132 + 1)) v133 v134 v135 v136 v137 v138 v139 v140 x238 v142 v143 v144 v145 v146 v147 v148 v149 nx
                              else
                                bif decide (v132 = 3) then
                                  f31_l2 k j v130 v131 (wr .i64 (v132 + 1)) v133 v134 v135 v136 v137 v138 v139 v140 v141 x238 v143 v144 v145 v146 v147 v148 v149 nx
                                else
                                  bif decide (v132 = 4) then
                                    f31_l2 k j v130 v131 (wr .i64 (v132 + 1)) v133 v134 v135 v136 v137 v138 v139 v140 v141 v142 x238 v144 v145 v146 v147 v148 v149 nx
                                  else
                                    none
                        else
                          none
                else
                  none
      else
        bif decide (v132 = 1) then
          let x213 : (Option Int) := (mapGet (fun (a b : Int) => a == b) v131 v145)
          bif decide (v132 = 0) then
            bif (!x213.isSome) then
              f31_l2 k j v130 v131 (wr .i64 (v132 + 1)) v133 v134 v135 v136 v137 v138 v139 v140 v141 v142 v143 v144 v145 v146 v147 v148 v149 nx
            else
              (f30 k v130 (x213.getD 0)).bind fun x230 =>
              bif (!x230.1.1) then
                (f32 k v139).bind fun x231 =>
                bif decide ((x231.2.1.length + [v131].length) * 8 ≤ roomy) then
                  bif decide (v132 = 0) then
                    f31_l2 k j v130 v131 (wr .i64 (v132 + 1)) v133 v134 v135 v136 v137 v138 (x231.2.1 ++ [v131]) v140 v141 v142 v143 v144 v145 v146 v147 v148 v149 nx
                  else
                    bif decide (v132 = 1) then
                      f31_l2 k j v130 v131 (wr .i64 (v132 + 1)) v133 v134 v135 v136 v137 v138 v139 (x231.2.1 ++ [v131]) v141 v142 v143 v144 v145 v146 v147 v148 v149 nx
                    else
                      bif decide (v132 = 2) then
                        f31_l2 k j v130 v131 (wr .i64 (v132 + 1)) v133 v134 v135 v136 v137 v138 v139 v140 (x231.2.1 ++ [v131]) v142 v143 v144 v145 v146 v147 v148 v149 nx
                      else
                        bif decide (v132 = 3) then
                          f31_l2 k j v130 v131 (wr .i64 (v132 + 1)) v133 v134 v135 v136 v137 v138 v139 v140 v141 (x231.2.1 ++ [v131]) v143 v144 v145 v146 v147 v148 v149 nx
                        else
                          bif decide (v132 = 4) then
                            f31_l2 k j v130 v131 (wr .i64 (v132 + 1)) v133 v134 v135 v136 v137 v138 v139 v140 v141 v142 (x231.2.1 ++ [v131]) v144 v145 v146 v147 v148 v149 nx
                          else
                            none
                else
                  none
              else
                (getI v139 (wr .i64 ((v139.length : Int) - 1))).bind fun x232 =>
                bif (x232 != (x213.getD 0)) then
                  nx.2.1 ((false, ()), ((v133, v134, v135, v136, v137, v138, v139, v140, v141, v142, v143, ((), ()), ()), v144, v145, v146, v147, v148, (v149, ()), ()))
                else
                  bif decide (0 ≤ 0) && decide (0 ≤ (wr .i64 ((v139.length : Int) - 1))) && decide ((wr .i64 ((v139.length : Int) - 1)) ≤ (v139.length : Int)) then
                    let x233 : (List Int) := (sub v139 0 (wr .i64 ((v139.length : Int) - 1)))
                    bif decide (v132 = 0) then
                      f31_l2 k j v130 v131 (wr .i64 (v132 + 1)) v133 v134 v135 v136 v137 v138 x233 v140 v141 v142 v143 v144 v145 v146 v147 v148 v149 nx
                    else
                      bif decide (v132 = 1) then
                        f31_l2 k j v130 v131 (wr .i64 (v132 + 1)) v133 v134 v135 v136 v137 v138 v139 x233 v141 v142 v143 v144 v145 v146 v147 v148 v149 nx
                      else
                        bif decide (v132 = 2) then
                          f31_l2 k j v130 v131 (wr .i64 (v132 + 1)) v133 v134 v135 v136 v137 v138 v139 v140 x233 v142 v143 v144 v145 v146 v147 v148 v149 nx
                        else
                          bif decide (v132 = 3) then
                            f31_l2 k j v130 v131 (wr .i64 (v132 + 1)) v133 v134 v135 v136 v137 v138 v139 v140 v141 x233 v143 v144 v145 v146 v147 v148 v149 nx
                          else
                            bif decide (v132 = 4) then
                              f31_l2 k j v130 v131 (wr .i64 (v132 + 1)) v133 v134 v135 v136 v137 v138 v139 v140 v141 v142 x233 v144 v145 v146 v147 v148 v149 nx
                            else
                              none
                  else
                    none
          else
            bif decide (v132 = 1) then
              bif (!x213.isSome) then
                f31_l2 k j v130 v131 (wr .i64 (v132 + 1)) v133 v134 v135 v136 v137 v138 v139 v140 v141 v142 v143 v144 v145 v146 v147 v148 v149 nx
              else
                (f30 k v130 (x213.getD 0)).bind fun x226 =>
                bif (!x226.1.1) then
                  (f32 k v140).bind fun x227 =>
                  bif decide ((x227.2.1.length + [v131].length) * 8 ≤ roomy) then
                    bif decide (v132 = 0) then
                      f31_l2 k j v130 v131 (wr .i64 (v132 + 1)) v133 v134 v135 v136 v137 v138 (x227.2.1 ++ [v131]) v140 v141 v142 v143 v144 v145 v146 v147 v148 v149 nx
                    else
                      bif decide (v132 = 1) then
                        f31_l2 k j v130 v131 (wr .i64 (v132 + 1)) v133 v134 v135 v136 v137 v138 v139 (x227.2.1 ++ [v131]) v141 v142 v143 v144 v145 v146 v147 v148 v149 nx
                      else
                        bif decide (v132 = 2) then
                          f31_l2 k j v130 v131 (wr .i64 (v132 + 1)) v133 v134 v135 v136 v137 v138 v139 v140 (x227.2.1 ++ [v131]) v142 v143 v144 v145 v146 v147 v148 v149 nx
                        else
                          bif decide (v132 = 3) then
                            f31_l2 k j v130 v131 (wr .i64 (v132 + 1)) v133 v134 v135 v136 v137 v138 v139 v140 v141 (x227.2.1 ++ [v131]) v143 v144 v145 v146 v147 v148 v149 nx
                          else
                            bif decide (v132 = 4) then
                              f31_l2 k j v130 v131 (wr .i64 (v132 + 1)) v133 v134 v135 v136 v137 v138 v139 v140 v141 v142 (x227.2.1 ++ [v131]) v144 v145 v146 v147 v148 v149 nx
                            else
                              none
                  else
                    none
                else
                  (getI v140 (wr .i64 ((v140.length : Int) - 1))).bind fun x228 =>
                  bif (x228 != (x213.getD 0)) then
                    nx.2.1 ((false, ()), ((v133, v134, v135, v136, v137, v138, v139, v140, v141, v142, v143, ((), ()), ()), v144, v145, v146, v147, v148, (v149, ()), ()))
                  else
                    bif decide (0 ≤ 0) && decide (0 ≤ (wr .i64 ((v140.length : Int) - 1))) && decide ((wr .i64 ((v140.length : Int) - 1)) ≤ (v140.length : Int)) then
                      let x229 : (List Int) := (sub v140 0 (wr .i64 ((v140.length : Int) - 1)))
                      bif decide (v132 = 0) then
                        f31_l2 k j v130 v131 (wr .i64 (v132 + 1)) v133 v134 v135 v136 v137 v138 x229 v140 v141 v142 v143 v144 v145 v146 v147 v148 v149 nx
                      else
                        bif decide (v132 = 1) then
                          f31_l2 k j v130 v131 (wr .i64 (v132 + 1)) v133 v134 v135 v136 v137 v138 v139 x229 v141 v142 v143 v144 v145 v146 v147 v148 v149 nx
                        else
                          bif decide (v132 = 2) then
                            f31_l2 k j v130 v131 (wr .i64 (v132 + 1)) v133 v134 v135 v136 v137 v138 v139 v140 x229 v142 v143 v144 v145 v146 v147 v148 v149 nx
                          else
                            bif decide (v132 = 3) then
                              f31_l2 k j v130 v131 (wr .i64 (v132 + 1)) v133 v134 v135 v136 v137 v138 v139 v140 v141 x229 v143 v144 v145 v146 v147 v148 v149 nx
                            else
                              bif decide (v132 = 4) then
                                f31_l2 k j v130 v131 (wr .i64 (v132 + 1)) v133 v134 v135 v136 v137 v138 v139 v140 v141 v142 x229 v144 v145 v146 v147 v148 v149 nx
                              else
                                none
                    else
                      none
            else
              bif decide (v132 = 2) then
                bif (!x213.isSome) then
                  f31_l2 k j v130 v131 (wr .i64 (v132 + 1)) v133 v134 v135 v136 v137 v138 v139 v140 v141 v142 v143 v144 v145 v146 v147 v148 v149 nx
                else
                  (f30 k v130 (x213.getD 0)).bind fun x222 =>
                  bif (!x222.1.1) then
                    (f32 k v141).bind fun x223 =>
                    bif decide ((x223.2.1.length + [v131].length) * 8 ≤ roomy) then
                      bif decide (v132 = 0) then
                        f31_l2 k j v130 v131 (wr .i64 (v132 + 1)) v133 v134 v135 v136 v137 v138 (x223.2.1 ++ [v131]) v140 v141 v142 v143 v144 v145 v146 v147 v148 v149 nx
                      else
                        bif decide (v132 = 1) then
                          f31_l2 k j v130 v131 (wr .i64 (v132 + 1)) v133 v134 v135 v136 v137 v138 v139 (x223.2.1 ++ [v131]) v141 v142 v143 v144 v145 v146 v147 v148 v149 nx
                        else
                          bif decide (v132 = 2) then
                            f31_l2 k j v130 v131 (wr .i64 (v132 + 1)) v133 v134 v135 v136 v137 v138 v139 v140 (x223.2.1 ++ [v131]) v142 v143 v144 v145 v146 v147 v148 v149 nx
                          else
                            bif decide (v132 = 3) then
                              f31_l2 k j v130 v131 (wr .i64 (v132 + 1)) v133 v134 v135 v136 v137 v138 v139 v140 v141 (x223.2.1 ++ [v131]) v143 v144 v145 v146 v147 v148 v149 nx
                            else
                              bif decide (v132 = 4) then
                                f31_l2 k j v130 v131 (wr .i64 (v132 + 1)) v133 v134 v135 v136 v137 v138 v139 v140 v141 v142 (x223.2.1 ++ [v131]) v144 v145 v146 v147 v148 v149 nx
                              else
                                none
                    else
                      none
                  else
                    (getI v141 (wr .i64 ((v141.length : Int) - 1))).bind fun x224 =>
                    bif (x224 != (x213.getD 0)) then
                      nx.2.1 ((false, ()), ((v133, v134, v135, v136, v137, v138, v139, v140, v141, v142, v143, ((), ()), ()), v144, v145, v146, v147, v148, (v149, ()), ()))
                    else
                      bif decide (0 ≤ 0) && decide (0 ≤ (wr .i64 ((v141.length : Int) - 1))) && decide ((wr .i64 ((v141.length : Int) - 1)) ≤ (v141.length : Int)) then
                        let x225 : (List Int) := (sub v141 0 (wr .i64 ((v141.length : Int) - 1)))
                        bif decide (v132 = 0) then
                          f31_l2 k j v130 v131 (wr .i64 (v132 + 1)) v133 v134 v135 v136 v137 v138 x225 v140 v141 v142 v143 v144 v145 v146 v147 v148 v149 nx
                        else
                          bif decide (v132 = 1) then
                            f31_l2 k j v130 v131 (wr .i64 (v132 + 1)) v133 v134 v135 v136 v137 v138 v139 x225 v141 v142 v143 v144 v145 v146 v147 v148 v149 nx
                          else
                            bif decide (v132 = 2) then
                              f31_l2 k j v130 v131 (wr .i64 (v132 + 1)) v133 v134 v135 v136 v137 v138 v139 v140 x225 v142 v143 v144 v145 v146 v147 v148 v149 nx
                            else
                              bif decide (v132 = 3) then
                                f31_l2 k j v130 v131 (wr .i64 (v132 + 1)) v133 v134 v135 v136 v137 v138 v139 v140 v141 x225 v143 v144 v145 v146 v147 v148 v149 nx
                              else
                                bif decide (v132 = 4) then
                                  f31_l2 k j v130 v131 (wr .i64 (v132 + 1)) v133 v134 v135 v136 v137 v138 v139 v140 v141 v142 x225 v144 v145 v146 v147 v148 v149 nx
                                else
                                  none
                      else
                        none
              else
                bif decide (v132 = 3) then
                  bif (!x213.isSome) then
                    f31_l2 k j v130 v131 (wr .i64 (v132 + 1)) v133 v134 v135 v136 v137 v138 v139 v140 v141 v142 v143 v144 v145 v146 v147 v148 v149 nx
                  else
                    (f30 k v130 (x213.getD 0)).bind fun x218 =>
                    bif (!x218.1.1) then
                      (f32 k v142).bind fun x219 =>
                      bif decide ((x219.2.1.length + [v131].length) * 8 ≤ roomy) then
                        bif decide (v132 = 0) then
                          f31_l2 k j v130 v131 (wr .i64 (v132 + 1)) v133 v134 v135 v136 v137 v138 (x219.2.1 ++ [v131]) v140 v141 v142 v143 v144 v145 v146 v147 v148 v149 nx
                        else
                          bif decide (v132 = 1) then
                            f31_l2 k j v130 v131 (wr .i64 (v132 + 1)) v133 v134 v135 v136 v137 v138 v139 (x219.2.1 ++ [v131]) v141 v142 v143 v144 v145 v146 v147 v148 v149 nx
                          else
                            bif decide (v132 = 2) then
                              f31_l2 k j v130 v131 (wr .i64 (v132 + 1)) v133 v134 v135 v136 v137 v138 v139 v140 (x219.2.1 ++ [v131]) v142 v143 v144 v145 v146 v147 v148 v149 nx
                            else
                              bif decide (v132 = 3) then
                                f31_l2 k j v130 v131 (wr .i64 (v132 + 1)) v133 v134 v135 v136 v137 v138 v139 v140 v141 (x219.2.1 ++ [v131]) v143 v144 v145 v146 v147 v148 v149 nx
                              else
                                bif decide (v132 = 4) then
                                  f31_l2 k j v130 v131 (wr .i64 (v132 + 1)) v133 v134 v135 v136 v137 v138 v139 v140 v141 v142 (x219.2.1 ++ [v131]) v144 v145 v146 v147 v148 v149 nx
                                else
                                  none
                      else
                        none
                    else
                      (getI v142 (wr .i64 ((v142.length : Int) - 1))).bind fun x220 =>
                      bif (x220 != (x213.getD 0)) then
                        nx.2.1 ((false, ()), ((v133, v134, v135, v136, v137, v138, v139, v140, v141, v142, v143, ((), ()), ()), v144, v145, v146, v147, v148, (v149, ()), ()))
                      else
                        bif decide (0 ≤ 0) && decide (0 ≤ (wr .i64 ((v142.length : Int) - 1))) && decide ((wr .i64 ((v142.length : Int) - 1)) ≤ (v142.length : Int)) then
                          let x221 : (List Int) := (sub v142 0 (wr .i64 ((v142.length : Int) - 1)))
                          bif decide (v132 = 0) then
                            f31_l2 k j v130 v131 (wr .i64 (v132 + 1)) v133 v134 v135 v136 v137 v138 x221 v140 v141 v142 v143 v144 v145 v146 v147 v148 v149 nx
                          else
                            bif decide (v132 = 1) then
                              f31_l2 k j v130 v131 (wr .i64 (v132 + 1)) v133 v134 v135 v136 v137 v138 v139 x221 v141 v142 v143 v144 v145 v146 v147 v148 v149 nx
                            else
                              bif decide (v132 = 2) then
                                f31_l2 k j v130 v131 (wr .i64 (v132 + 1)) v133 v134 v135 v136 v137 v138 v139 v140 x221 v142 v143 v144 v145 v146 v147 v148 v149 nx
                              else
                                bif decide (v132 = 3) then
                                  f31_l2 k j v130 v131 (wr .i64 (v132 + 1)) v133 v134 v135 v136 v137 v138 v139 v140 v141 x221 v143 v144 v145 v146 v147 v148 v149 nx
                                else
                                  bif decide (v132 = 4) then
                                    f31_l2 k j v130 v131 (wr .i64 (v132 + 1)) v133 v134 v135 v136 v137 v138 v139 v140 v141 v142 x221 v144 v145 v146 v147 v148 v149 nx
                                  else
                                    none
                        else
                          none
                else
                  bif decide (v132 = 4) then
                    bif (!x213.isSome) then
                      f31_l2 k j v130 v131 (wr .i64 (v132 + 1)) v133 v134 v135 v136 v137 v138 v139 v140 v141 v142 v143 v144 v145 v146 v147 v148 v149 nx
                    else
                      (f30 k v130 (x213.getD 0)).bind fun x214 =>
                      bif (!x214.1.1) then
                        (f32 k v143).bind fun x215 =>
                        bif decide ((x215.2.1.length + [v131].length) * 8 ≤ roomy) then
                          bif decide (v132 = 0) then
                            f31_l2 k j v130 v131 (wr .i64 (v132 + 1)) v133 v134 v135 v136 v137 v138 (x215.2.1 ++ [v131]) v140 v141 v142 v143 v144 v145 v146 v147 v148 v149 nx
                          else
                            bif decide (v132 = 1) then
                              f31_l2 k j v130 v131 (wr .i64 (v132 + 1)) v133 v134 v135 v136 v137 v138 v139 (x215.2.1 ++ [v131]) v141 v142 v143 v144 v145 v146 v147 v148 v149 nx
                            else
                              bif decide (v132 = 2) then
                                f31_l2 k j v130 v131 (wr .i64 (v132 + 1)) v133 v134 v135 v136 v137 v138 v139 v140 (x215.2.1 ++ [v131]) v142 v143 v144 v145 v146 v147 v148 v149 nx
                              else
                                bif decide (v132 = 3) then
                                  f31_l2 k j v130 v131 (wr .i64 (v132 + 1)) v133 v134 v135 v136 v137 v138 v139 v140 v141 (x215.2.1 ++ [v131]) v143 v144 v145 v146 v147 v148 v149 nx
                                else
                                  bif decide (v132 = 4) then
                                    f31_l2 k j v130 v131 (wr .i64 (v132 + 1)) v133 v134 v135 v136 v137 v138 v139 v140 v141 v142 (x215.2.1 ++ [v131]) v144 v145 v146 v147 v148 v149 nx
                                  else
                                    none
                        else
                          none
                      else
                        (getI v143 (wr .i64 ((v143.length : Int) - 1))).bind fun x216 =>
                        bif (x216 != (x213.getD 0)) then
                          nx.2.1 ((false, ()), ((v133, v134, v135, v136, v137, v138, v139, v140, v141, v142, v143, ((), ()), ()), v144, v145, v146, v147, v148, (v149, ()), ()))
                        else
                          bif decide (0 ≤ 0) && decide (0 ≤ (wr .i64 ((v143.length : Int) - 1))) && decide ((wr .i64 ((v143.length : Int) - 1)) ≤ (v143.length : Int)) then
                            let x217 : (List Int) := (sub v143 0 (wr .i64 ((v143.length : Int) - 1)))
                            bif decide (v132 = 0) then
                              f31_l2 k j v130 v131 (wr .i64 (v132 + 1)) v133 v134 v135 v136 v137 v138 x217 v140 v141 v142 v143 v144 v145 v146 v147 v148 v149 nx
                            else
                              bif decide (v132 = 1) then
                                f31_l2 k j v130 v131 (wr .i64 (v132 + 1)) v133 v134 v135 v136 v137 v138 v139 x217 v141 v142 v143 v144 v145 v146 v147 v148 v149 nx
                              else
                                bif decide (v132 = 2) then
                                  f31_l2 k j v130 v131 (wr .i64 (v132 + 1)) v133 v134 v135 v136 v137 v138 v139 v140 x217 v142 v143 v144 v145 v146 v147 v148 v149 nx
                                else
                                  bif decide (v132 = 3) then
                                    f31_l2 k j v130 v131 (wr .i64 (v132 + 1)) v133 v134 v135 v136 v137 v138 v139 v140 v141 x217 v143 v144 v145 v146 v147 v148 v149 nx
                                  else
                                    bif decide (v132 = 4) then
                                      f31_l2 k j v130 v131 (wr .i64 (v132 + 1)) v133 v134 v135 v136 v137 v138 v139 v140 v141 v142 x217 v144 v145 v146 v147 v148 v149 nx
                                    else
                                      none
                          else
                            none
                  else
                    none
        else
          bif decide (v132 = 2) then
            let x192 : (Option Int) := (mapGet (fun (a b : Int) => a == b) v131 v146)
            bif decide (v132 = 0) then
              bif (!x192.isSome) then
                f31_l2 k j v130 v131 (wr .i64 (v132 + 1)) v133 v134 v135 v136 v137 v138 v139 v140 v141 v142 v143 v144 v145 v146 v147 v148 v149 nx
              else
                (f30 k v130 (x192.getD 0)).bind fun x209 =>
                bif (!x209.1.1) then
                  (f32 k v139).bind fun x210 =>
                  bif decide ((x210.2.1.length + [v131].length) * 8 ≤ roomy) then
                    bif decide (v132 = 0) then
                      f31_l2 k j v130 v131 (wr .i64 (v132 + 1)) v133 v134 v135 v136 v137 v138 (x210.2.1 ++ [v131]) v140 v141 v142 v143 v144 v145 v146 v147 v148 v149 nx
                    else
                      bif decide (v132 = 1) then
                        f31_l2 k j v130 v131 (wr .i64 (v132 + 1)) v133 v134 v135 v136 v137 v138 v139 (x210.2.1 ++ [v131]) v141 v142 v143 v144 v145 v146 v147 v148 v149 nx
                      else
                        bif decide (v132 = 2) then
                          f31_l2 k j v130 v131 (wr .i64 (v132 + 1)) v133 v134 v135 v136 v137 v138 v139 v140 (x210.2.1 ++ [v131]) v142 v143 v144 v145 v146 v147 v148 v149 nx
                        else
                          bif decide (v132 = 3) then
                            f31_l2 k j v130 v131 (wr .i64 (v132 + 1)) v133 v134 v135 v136 v137 v138 v139 v140 v141 (x210.2.1 ++ [v131]) v143 v144 v145 v146 v147 v148 v149 nx
                          else
                            bif decide (v132 = 4) then
                              f31_l2 k j v130 v131 (wr .i64 (v132 + 1)) v133 v134 v135 v136 v137 v138 v139 v140 v141 v142 (x210.2.1 ++ [v131]) v144 v145 v146 v147 v148 v149 nx
                            else
                              none
                  else
                    none
                else
                  (getI v139 (wr .i64 ((v139.length : Int) - 1))).bind fun x211 =>
                  bif (x211 != (x192.getD 0)) then
                    nx.2.1 ((false, ()), ((v133, v134, v135, v136, v137, v138, v139, v140, v141, v142, v143, ((), ()), ()), v144, v145, v146, v147, v148, (v149, ()), ()))
                  else
                    bif decide (0 ≤ 0) && decide (0 ≤ (wr .i64 ((v139.length : Int) - 1))) && decide ((wr .i64 ((v139.length : Int) - 1)) ≤ (v139.length : Int)) then
                      let x212 : (List Int) := (sub v139 0 (wr .i64 ((v139.length : Int) - 1)))
                      bif decide (v132 = 0) then
                        f31_l2 k j v130 v131 (wr .i64 (v132 + 1)) v133 v134 v135 v136 v137 v138 x212 v140 v141 v142 v143 v144 v145 v146 v147 v148 v149 nx
                      else
                        bif decide (v132 = 1) then
                          f31_l2 k j v130 v131 (wr .i64 (v132 + 1)) v133 v134 v135 v136 v137 v138 v139 x212 v141 v142 v143 v144 v145 v146 v147 v148 v149 nx
                        else
                          bif decide (v132 = 2) then
                            f31_l2 k j v130 v131 (wr .i64 (v132 + 1)) v133 v134 v135 v136 v137 v138 v139 v140 x212 v142 v143 v144 v145 v146 v147 v148 v149 nx
                          else
                            bif decide (v132 = 3) then
                              f31_l2 k j v130 v131 (wr .i64 (v132 + 1)) v133 v134 v135 v136 v137 v138 v139 v140 v141 x212 v143 v144 v145 v146 v147 v148 v149 nx
                            else
                              bif decide (v132 = 4) then
                                f31_l2 k j v130 v131 (wr .i64 (v132 + 1)) v133 v134 v135 v136 v137 v138 v139 v140 v141 v142 x212 v144 v145 v146 v147 v148 v149 nx
                              else
                                none
                    else
                      none
            else
              bif decide (v132 = 1) then
                bif (!x192.isSome) then
                  f31_l2 k j v130 v131 (wr .i64 (v132 + 1)) v133 v134 v135 v136 v137 v138 v139 v140 v141 v142 v143 v144 v145 v146 v147 v148 v149 nx
                else
                  (f30 k v130 (x192.getD 0)).bind fun x205 =>
                  bif (!x205.1.1) then
                    (f32 k v140).bind fun x206 =>
                    bif decide ((x206.2.1.length + [v131].length) * 8 ≤ roomy) then
                      bif decide (v132 = 0) then
                        f31_l2 k j v130 v131 (wr .i64 (v132 + 1)) v133 v134 v135 v136 v137 v138 (x206.2.1 ++ [v131]) v140 v141 v142 v143 v144 v145 v146 v147 v148 v149 nx
                      else
                        bif decide (v132 = 1) then
                          f31_l2 k j v130 v131 (wr .i64 (v132 + 1)) v133 v134 v135 v136 v137 v138 v139 (x206.2.1 ++ [v131]) v141 v142 v143 v144 v145 v146 v147 v148 v149 nx
                        else
                          bif decide (v132 = 2) then
                            f31_l2 k j v130 v131 (wr .i64 (v132 + 1)) v133 v134 v135 v136 v137 v138 v139 v140 (x206.2.1 ++ [v131]) v142 v143 v144 v145 v146 v147 v148 v149 nx
                          else
                            bif decide (v132 = 3) then
                              f31_l2 k j v130 v131 (wr .i64 (v132 + 1)) v133 v134 v135 v136 v137 v138 v139 v140 v141 (x206.2.1 ++ [v131]) v143 v144 v145 v146 v147 v148 v149 nx
                            else
                              bif decide (v132 = 4) then
                                f31_l2 k j v130 v131 (wr .i64 (v132 + 1)) v133 v134 v135 v136 v137 v138 v139 v140 v141 v142 (x206.2.1 ++ [v131]) v144 v145 v146 v147 v148 v149 nx
                              else
                                none
                    else
                      none
                  else
                    (getI v140 (wr .i64 ((v140.length : Int) - 1))).bind fun x207 =>
                    bif (x207 != (x192.getD 0)) then
                      nx.2.1 ((false, ()), ((v133, v134, v135, v136, v137, v138, v139, v140, v141, v142, v143, ((), ()), ()), v144, v145, v146, v147, v148, (v149, ()), ()))
                    else
                      bif decide (0 ≤ 0) && decide (0 ≤ (wr .i64 ((v140.length : Int) - 1))) && decide ((wr .i64 ((v140.length : Int) - 1)) ≤ (v140.length : Int)) then
                        let x208 : (List Int) := (sub v140 0 (wr .i64 ((v140.length : Int) - 1)))
                        bif decide (v132 = 0) then
                          f31_l2 k j v130 v131 (wr .i64 (v132 + 1)) v133 v134 v135 v136 v137 v138 x208 v140 v141 v142 v143 v144 v145 v146 v147 v148 v149 nx
                        else
                          bif decide (v132 = 1) then
                            f31_l2 k j v130 v131 (wr .i64 (v132 + 1)) v133 v134 v135 v136 v137 v138 v139 x208 v141 v142 v143 v144 v145 v146 v147 v148 v149 nx
                          else
                            bif decide (v132 = 2) then
                              f31_l2 k j v130 v131 (wr .i64 (v132 + 1)) v133 v134 v135 v136 v137 v138 v139 v140 x208 v142 v143 v144 v145 v146 v147 v148 v149 nx
                            else
                              bif decide (v132 = 3) then
                                f31_l2 k j v130 v131 (wr .i64 (v132 + 1)) v133 v134 v135 v136 v137 v138 v139 v140 v141 x208 v143 v144 v145 v146 v147 v148 v149 nx
                              else
                                bif decide (v132 = 4) then
                                  f31_l2 k j v130 v131 (wr .i64 (v132 + 1)) v133 v134 v135 v136 v137 v138 v139 v140 v141 v142 x208 v144 v145 v146 v147 v148 v149 nx
                                else
                                  none
                      else
                        none
              else
                bif decide (v132 = 2) then
                  bif (!x192.isSome) then
                    f31_l2 k j v130 v131 (wr .i64 (v132 + 1)) v133 v134 v135 v136 v137 v138 v139 v140 v141 v142 v143 v144 v145 v146 v147 v148 v149 nx
                  else
                    (f30 k v130 (x192.getD 0)).bind fun x201 =>
                    bif (!x201.1.1) then
                      (f32 k v141).bind fun x202 =>
                      bif decide ((x202.2.1.length + [v131].length) * 8 ≤ roomy) then
                        bif decide (v132 = 0) then
                          f31_l2 k j v130 v131 (wr .i64 (v132 + 1)) v133 v134 v135 v136 v137 v138 (x202.2.1 ++ [v131]) v140 v141 v142 v143 v144 v145 v146 v147 v148 v149 nx
                        else
                          bif decide (v132 = 1) then
                            f31_l2 k j v130 v131 (wr .i64 (v132 + 1)) v133 v134 v135 v136 v137 v138 v139 (x202.2.1 ++ [v131]) v141 v142 v143 v144 v145 v146 v147 v148 v149 nx
                          else
                            bif decide (v132 = 2) then
                              f31_l2 k j v130 v131 (wr .i64 (v132 + 1)) v133 v134 v135 v136 v137 v138 v139 v140 (x202.2.1 ++ [v131]) v142 v143 v144 v145 v146 v147 v148 v149 nx
                            else
                              bif decide (v132 = 3) then
                                f31_l2 k j v130 v131 (wr .i64 (v132 + 1)) v133 v134 v135 v136 v137 v138 v139 v140 v141 (x202.2.1 ++ [v131]) v143 v144 v145 v146 v147 v148 v149 nx
                              else
                                bif decide (v132 = 4) then
                                  f31_l2 k j v130 v131 (wr .i64 (v132 + 1)) v133 v134 v135 v136 v137 v138 v139 v140 v141 v142 (x202.2.1 ++ [v131]) v144 v145 v146 v147 v148 v149 nx
                                else
                                  none
                      else
                        none
                    else
                      (getI v141 (wr .i64 ((v141.length : Int) - 1))).bind fun x203 =>
                      bif (x203 != (x192.getD 0)) then
                        nx.2.1 ((false, ()), ((v133, v134, v135, v136, v137, v138, v139, v140, v141, v142, v143, ((), ()), ()), v144, v145, v146, v147, v148, (v149, ()), ()))
                      else
                        bif decide (0 ≤ 0) && decide (0 ≤ (wr .i64 ((v141.length : Int) - 1))) && decide ((wr .i64 ((v141.length : Int) - 1)) ≤ (v141.length : Int)) then
                          let x204 : (List Int) := (sub v141 0 (wr .i64 ((v141.length : Int) - 1)))
                          bif decide (v132 = 0) then
                            f31_l2 k j v130 v131 (wr .i64 (v132 + 1)) v133 v134 v135 v136 v137 v138 x204 v140 v141 v142 v143 v144 v145 v146 v147 v148 v149 nx
                          else
                            bif decide (v132 = 1) then
                              f31_l2 k j v130 v131 (wr .i64 (v132 + 1)) v133 v134 v135 v136 v137 v138 v139 x204 v141 v142 v143 v144 v145 v146 v147 v148 v149 nx
                            else
                              bif decide (v132 = 2) then
                                f31_l2 k j v130 v131 (wr .i64 (v132 + 1)) v133 v134 v135 v136 v137 v138 v139 v140 x204 v142 v143 v144 v145 v146 v147 v148 v149 nx
                              else
                                bif decide (v132 = 3) then
                                  f31_l2 k j v130 v131 (wr .i64 (v132 + 1)) v133 v134 v135 v136 v137 v138 v139 v140 v141 x204 v143 v144 v145 v146 v147 v148 v149 nx
                                else
                                  bif decide (v132 = 4) then
                                    f31_l2 k j v130 v131 (wr .i64 (v132 + 1)) v133 v134 v135 v136 v137 v138 v139 v140 v141 v142 x204 v144 v145 v146 v147 v148 v149 nx
                                  else
                                    none
                        else
                          none
                else
                  bif decide (v132 = 3) then
                    bif (!x192.isSome) then
                      f31_l2 k j v130 v131 (wr .i64 (v132 + 1)) v133 v134 v135 v136 v137 v138 v139 v140 v141 v142 v143 v144 v145 v146 v147 v148 v149 nx
                    else
                      (f30 k v130 (x192.getD 0)).bind fun x197 =>
                      bif (!x197.1.1) then
                        (f32 k v142).bind fun x198 =>
                        bif decide ((x198.2.1.length + [v131].length) * 8 ≤ roomy) then
                          bif decide (v132 = 0) then
                            f31_l2 k j v130 v131 (wr .i64 (v132 + 1)) v133 v134 v135 v136 v137 v138 (x198.2.1 ++ [v131]) v140 v141 v142 v143 v144 v145 v146 v147 v148 v149 nx
                          else
                            bif decide (v132 = 1) then
                              f31_l2 k j v130 v131 (wr .i64 (v132 + 1)) v133 v134 v135 v136 v137 v138 v139 (x198.2.1 ++ [v131]) v141 v142 v143 v144 v145 v146 v147 v148 v149 nx
                            else
                              bif decide (v132 = 2) then
                                f31_l2 k j v130 v131 (wr .i64 (v132 + 1)) v133 v134 v135 v136 v137 v138 v139 v140 (x198.2.1 ++ [v131]) v142 v143 v144 v145 v146 v147 v148 v149 nx
                              else
                                bif decide (v132 = 3) then
                                  f31_l2 k j v130 v131 (wr .i64 (v132 + 1)) v133 v134 v135 v136 v137 v138 v139 v140 v141 (x198.2.1 ++ [v131]) v143 v144 v145 v146 v147 v148 v149 nx
                                else
                                  bif decide (v132 = 4) then
                                    f31_l2 k j v130 v131 (wr .i64 (v132 + 1)) v133 v134 v135 v136 v137 v138 v139 v140 v141 v142 (x198.2.1 ++ [v131]) v144 v145 v146 v147 v148 v149 nx
                                  else
                                    none
                        else
                          none
                      else
                        (getI v142 (wr .i64 ((v142.length : Int) - 1))).bind fun x199 =>
                        bif (x199 != (x192.getD 0)) then
                          nx.2.1 ((false, ()), ((v133, v134, v135, v136, v137, v138, v139, v140, v141, v142, v143, ((), ()), ()), v144, v145, v146, v147, v148, (v149, ()), ()))
                        else
                          bif decide (0 ≤ 0) && decide (0 ≤ (wr .i64 ((v142.length : Int) - 1))) && decide ((wr .i64 ((v142.length : Int) - 1)) ≤ (v142.length : Int)) then
                            let x200 : (List Int) := (sub v142 0 (wr .i64 ((v142.length : Int) - 1)))
                            bif decide (v132 = 0) then
                              f31_l2 k j v130 v131 (wr .i64 (v132 + 1)) v133 v134 v135 v136 v137 v138 x200 v140 v141 v142 v143 v144 v145 v146 v147 v148 v149 nx
                            else
                              bif decide (v132 = 1) then
                                f31_l2 k j v130 v131 (wr .i64 (v132 + 1)) v133 v134 v135 v136 v137 v138 v139 x200 v141 v142 v143 v144 v145 v146 v147 v148 v149 nx
                              else
                                bif decide (v132 = 2) then
                                  f31_l2 k j v130 v131 (wr .i64 (v132 + 1)) v133 v134 v135 v136 v137 v138 v139 v140 x200 v142 v143 v144 v145 v146 v147 v148 v149 nx
                                else
                                  bif decide (v132 = 3) then
                                    f31_l2 k j v130 v131 (wr .i64 (v132 + 1)) v133 v134 v135 v136 v137 v138 v139 v140 v141 x200 v143 v144 v145 v146 v147 v148 v149 nx
                                  else
                                    bif decide (v132 = 4) then
                                      f31_l2 k j v130 v131 (wr .i64 (v132 + 1)) v133 v134 v135 v136 v137 v138 v139 v140 v141 v142 x200 v144 v145 v146 v147 v148 v149 nx
                                    else
                                      none
                          else
                            none
                  else
                    bif decide (v132 = 4) then
                      bif (!x192.isSome) then
                        f31_l2 k j v130 v131 (wr .i64 (v132 + 1)) v133 v134 v135 v136 v137 v138 v139 v140 v141 v142 v143 v144 v145 v146 v147 v148 v149 nx
                      else
                        (f30 k v130 (x192.getD 0)).bind fun x193 =>
                        bif (!x193.1.1) then
                          (f32 k v143).bind fun x194 =>
                          bif decide ((x194.2.1.length + [v131].length) * 8 ≤ roomy) then
                            bif decide (v132 = 0) then
                              f31_l2 k j v130 v131 (wr .i64 (v132 + 1)) v133 v134 v135 v136 v137 v138 (x194.2.1 ++ [v131]) v140 v141 v142 v143 v144 v145 v146 v147 v148 v149 nx
                            else
                              bif decide (v132 = 1) then
                                f31_l2 k j v130 v131 (wr .i64 (v132 + 1)) v133 v134 v135 v136 v137 v138 v139 (x194.2.1 ++ [v131]) v141 v142 v143 v144 v145 v146 v147 v148 v149 nx
                              else
                                bif decide (v132 = 2) then
                                  f31_l2 k j v130 v131 (wr .i64 (v132 + 1)) v133 v134 v135 v136 v137 v138 v139 v140 (x194.2.1 ++ [v131]) v142 v143 v144 v145 v146 v147 v148 v149 nx
                                else
                                  bif decide (v132 = 3) then
                                    f31_l2 k j v130 v131 (wr .i64 (v132 + 1)) v133 v134 v135 v136 v137 v138 v139 v140 v141 (x194.2.1 ++ [v131]) v143 v144 v145 v146 v147 v148 v149 nx
                                  else
                                    bif decide (v132 = 4) then
                                      f31_l2 k j v130 v131 (wr .i64 (v132 + 1)) v133 v134 v135 v136 v137 v138 v139 v140 v141 v142 (x194.2.1 ++ [v131]) v144 v145 v146 v147 v148 v149 nx
                                    else
                                      none
                          else
                            none
                        else
                          (getI v143 (wr .i64 ((v143.length : Int) - 1))).bind fun x195 =>
                          bif (x195 != (x192.getD 0)) then
                            nx.2.1 ((false, ()), ((v133, v134, v135, v136, v137, v138, v139, v140, v141, v142, v143, ((), ()), ()), v144, v145, v146, v147, v148, (v149, ()), ()))
                          else
                            bif decide (0 ≤ 0) && decide (0 ≤ (wr .i64 ((v143.length : Int) - 1))) && decide ((wr .i64 ((v143.length : Int) - 1)) ≤ (v143.length : Int)) then
                              let x196 : (List Int) := (sub v143 0 (wr .i64 ((v143.length : Int) - 1)))
                              bif decide (v132 = 0) then
                                f31_l2 k j v130 v131 (wr .i64 (v132 + 1)) v133 v134 v135 v136 v137 v138 x196 v140 v141 v142 v143 v144 v145 v146 v147 v148 v149 nx
                              else
                                bif decide (v132 = 1) then
                                  f31_l2 k j v130 v131 (wr .i64 (v132 + 1)) v133 v134 v135 v136 v137 v138 v139 x196 v141 v142 v143 v144 v145 v146 v147 v148 v149 nx
                                else
                                  bif decide (v132 = 2) then
                                    f31_l2 k j v130 v131 (wr .i64 (v132 + 1)) v133 v134 v135 v136 v137 v138 v139 v140 x196 v142 v143 v144 v145 v146 v147 v148 v149 nx
                                  else
                                    bif decide (v132 = 3) then
                                      f31_l2 k j v130 v131 (wr .i64 (v132 + 1)) v133 v134 v135 v136 v137 v138 v139 v140 v141 x196 v143 v144 v145 v146 v147 v148 v149 nx
                                    else
                                      bif decide (v132 = 4) then
                                        f31_l2 k j v130 v131 (wr .i64 (v132 + 1)) v133 v134 v135 v136 v137 v138 v139 v140 v141 v142 x196 v144 v145 v146 v147 v148 v149 nx
                                      else
                                        none
                            else
                              none
                    else
                      none
          else
            bif decide (v132 = 3) then
              let x171 : (Option Int) := (mapGet (fun (a b : Int) => a == b) v131 v147)
              bif decide (v132 = 0) then
                bif (!x171.isSome) then
                  f31_l2 k j v130 v131 (wr .i64 (v132 + 1)) v133 v134 v135 v136 v137 v138 v139 v140 v141 v142 v143 v144 v145 v146 v147 v148 v149 nx
                else
                  (f30 k v130 (x171.getD 0)).bind fun x188 =>
                  bif (!x188.1.1) then
                    (f32 k v139).bind fun x189 =>
                    bif decide ((x189.2.1.length + [v131].length) * 8 ≤ roomy) then
                      bif decide (v132 = 0) then
                        f31_l2 k j v130 v131 (wr .i64 (v132 + 1)) v133 v134 v135 v136 v137 v138 (x189.2.1 ++ [v131]) v140 v141 v142 v143 v144 v145 v146 v147 v148 v149 nx
                      else
                        bif decide (v132 = 1) then
                          f31_l2 k j v130 v131 (wr .i64 (v132 + 1)) v133 v134 v135 v136 v137 v138 v139 (x189.2.1 ++ [v131]) v141 v142 v143 v144 v145 v146 v147 v148 v149 nx
                        else
                          bif decide (v132 = 2) then
                            f31_l2 k j v130 v131 (wr .i64 (v132 + 1)) v133 v134 v135 v136 v137 v138 v139 v140 (x189.2.1 ++ [v131]) v142 v143 v144 v145 v146 v147 v148 v149 nx
                          else
                            bif decide (v132 = 3) then
                              f31_l2 k j v130 v131 (wr .i64 (v132 + 1)) v133 v134 v135 v136 v137 v138 v139 v140 v141 (x189.2.1 ++ [v131]) v143 v144 v145 v146 v147 v148 v149 nx
                            else
                              bif decide (v132 = 4) then
                                f31_l2 k j v130 v131 (wr .i64 (v132 + 1)) v133 v134 v135 v136 v137 v138 v139 v140 v141 v142 (x189.2.1 ++ [v131]) v144 v145 v146 v147 v148 v149 nx
                              else
                                none
                    else
                      none
                  else
                    (getI v139 (wr .i64 ((v139.length : Int) - 1))).bind fun x190 =>
                    bif (x190 != (x171.getD 0)) then
                      nx.2.1 ((false, ()), ((v133, v134, v135, v136, v137, v138, v139, v140, v141, v142, v143, ((), ()), ()), v144, v145, v146, v147, v148, (v149, ()), ()))
                    else
                      bif decide (0 ≤ 0) && decide (0 ≤ (wr .i64 ((v139.length : Int) - 1))) && decide ((wr .i64 ((v139.length : Int) - 1)) ≤ (v139.length : Int)) then
                        let x191 : (List Int) := (sub v139 0 (wr .i64 ((v139.length : Int) - 1)))
                        bif decide (v132 = 0) then
                          f31_l2 k j v130 v131 (wr .i64 (v132 + 1)) v133 v134 v135 v136 v137 v138 x191 v140 v141 v142 v143 v144 v145 v146 v147 v148 v149 nx
                        else
                          bif decide (v132 = 1) then
                            f31_l2 k j v130 v131 (wr .i64 (v132 + 1)) v133 v134 v135 v136 v137 v138 v139 x191 v141 v142 v143 v144 v145 v146 v147 v148 v149 nx
                          else
                            bif decide (v132 = 2) then
                              f31_l2 k j v130 v131 (wr .i64 (v132 + 1)) v133 v134 v135 v136 v137 v138 v139 v140 x191 v142 v143 v144 v145 v146 v147 v148 v149 nx
                            else
                              bif decide (v132 = 3) then
                                f31_l2 k j v130 v131 (wr .i64 (v132 + 1)) v133 v134 v135 v136 v137 v138 v139 v140 v141 x191 v143 v144 v145 v146 v147 v148 v149 nx
                              else
                                bif decide (v132 = 4) then
                                  f31_l2 k j v130 v131 (wr .i64 (v132 + 1)) v133 v134 v135 v136 v137 v138 v139 v140 v141 v142 x191 v144 v145 v146 v147 v148 v149 nx
                                else
                                  none
                      else
                        none
              else
                bif decide (v132 = 1) then
                  bif (!x171.isSome) then
                    f31_l2 k j v130 v131 (wr .i64 (v132 + 1)) v133 v134 v135 v136 v137 v138 v139 v140 v141 v142 v143 v144 v145 v146 v147 v148 v149 nx
                  else
                    (f30 k v130 (x171.getD 0)).bind fun x184 =>
                    bif (!x184.1.1) then
                      (f32 k v140).bind fun x185 =>
                      bif decide ((x185.2.1.length + [v131].length) * 8 ≤ roomy) then
                        bif decide (v132 = 0) then
                          f31_l2 k j v130 v131 (wr .i64 (v132 + 1)) v133 v134 v135 v136 v137 v138 (x185.2.1 ++ [v131]) v140 v141 v142 v143 v144 v145 v146 v147 v148 v149 nx
                        else
                          bif decide (v132 = 1) then
                            f31_l2 k j v130 v131 (wr .i64 (v132 + 1)) v133 v134 v135 v136 v137 v138 v139 (x185.2.1 ++ [v131]) v141 v142 v143 v144 v145 v146 v147 v148 v149 nx
                          else
                            bif decide (v132 = 2) then
                              f31_l2 k j v130 v131 (wr .i64 (v132 + 1)) v133 v134 v135 v136 v137 v138 v139 v140 (x185.2.1 ++ [v131]) v142 v143 v144 v145 v146 v147 v148 v149 nx
                            else
                              bif decide (v132 = 3) then
                                f31_l2 k j v130 v131 (wr .i64 (v132 + 1)) v133 v134 v135 v136 v137 v138 v139 v140 v141 (x185.2.1 ++ [v131]) v143 v144 v145 v146 v147 v148 v149 nx
                              else
                                bif decide (v132 = 4) then
                                  f31_l2 k j v130 v131 (wr .i64 (v132 + 1)) v133 v134 v135 v136 v137 v138 v139 v140 v141 v142 (x185.2.1 ++ [v131]) v144 v145 v146 v147 v148 v149 nx
                                else
                                  none
                      else
                        none
                    else
                      (getI v140 (wr .i64 ((v140.length : Int) - 1))).bind fun x186 =>
                      bif (x186 != (x171.getD 0)) then
                        nx.2.1 ((false, ()), ((v133, v134, v135, v136, v137, v138, v139, v140, v141, v142, v143, ((), ()), ()), v144, v145, v146, v147, v148, (v149, ()), ()))
                      else
                        bif decide (0 ≤ 0) && decide (0 ≤ (wr .i64 ((v140.length : Int) - 1))) && decide ((wr .i64 ((v140.length : Int) - 1)) ≤ (v140.length : Int)) then
                          let x187 : (List Int) := (sub v140 0 (wr .i64 ((v140.length : Int) - 1)))
                          bif decide (v132 = 0) then
                            f31_l2 k j v130 v131 (wr .i64 (v132 + 1)) v133 v134 v135 v136 v137 v138 x187 v140 v141 v142 v143 v144 v145 v146 v147 v148 v149 nx
                          else
                            bif decide (v132 = 1) then
                              f31_l2 k j v130 v131 (wr .i64 (v132 + 1)) v133 v134 v135 v136 v137 v138 v139 x187 v141 v142 v143 v144 v145 v146 v147 v148 v149 nx
                            else
                              bif decide (v132 = 2) then
                                f31_l2 k j v130 v131 (wr .i64 (v132 + 1)) v133 v134 v135 v136 v137 v138 v139 v140 x187 v142 v143 v144 v145 v146 v147 v148 v149 nx
                              else
                                bif decide (v132 = 3) then
                                  f31_l2 k j v130 v131 (wr .i64 (v132 + 1)) v133 v134 v135 v136 v137 v138 v139 v140 v141 x187 v143 v144 v145 v146 v147 v148 v149 nx
                                else
                                  bif decide (v132 = 4) then
                                    f31_l2 k j v130 v131 (wr .i64 (v132 + 1)) v133 v134 v135 v136 v137 v138 v139 v140 v141 v142 x187 v144 v145 v146 v147 v148 v149 nx
                                  else
                                    none
                        else
                          none
                else
                  bif decide (v132 = 2) then
                    bif (!x171.isSome) then
                      f31_l2 k j v130 v131 (wr .i64 (v132 + 1)) v133 v134 v135 v136 v137 v138 v139 v140 v141 v142 v143 v144 v145 v146 v147 v148 v149 nx
                    else
                      (f30 k v130 (x171.getD 0)).bind fun x180 =>
                      bif (!x180.1.1) then
                        (f32 k v141).bind fun x181 =>
                        bif decide ((x181.2.1.length + [v131].length) * 8 ≤ roomy) then
                          bif decide (v132 = 0) then
                            f31_l2 k j v130 v131 (wr .i64 (v132 + 1)) v133 v134 v135 v136 v137 v138 (x181.2.1 ++ [v131]) v140 v141 v142 v143 v144 v145 v146 v147 v148 v149 nx
                          else
                            bif decide (v132 = 1) then
                              f31_l2 k j v130 v131 (wr .i64 (v132 + 1)) v133 v134 v135 v136 v137 v138 v139 (x181.2.1 ++ [v131]) v141 v142 v143 v144 v145 v146 v147 v148 v149 nx
                            else
                              bif decide (v132 = 2) then
                                f31_l2 k j v130 v131 (wr .i64 (v132 + 1)) v133 v134 v135 v136 v137 v138 v139 v140 (x181.2.1 ++ [v131]) v142 v143 v144 v145 v146 v147 v148 v149 nx
                              else
                                bif decide (v132 = 3) then
                                  f31_l2 k j v130 v131 (wr .i64 (v132 + 1)) v133 v134 v135 v136 v137 v138 v139 v140 v141 (x181.2.1 ++ [v131]) v143 v144 v145 v146 v147 v148 v149 nx
                                else
                                  bif decide (v132 = 4) then
                                    f31_l2 k j v130 v131 (wr .i64 (v132 + 1)) v133 v134 v135 v136 v137 v138 v139 v140 v141 v142 (x181.2.1 ++ [v131]) v144 v145 v146 v147 v148 v149 nx
                                  else
                                    none
                        else
                          none
                      else
                        (getI v141 (wr .i64 ((v141.length : Int) - 1))).bind fun x182 =>
                        bif (x182 != (x171.getD 0)) then
                          nx.2.1 ((false, ()), ((v133, v134, v135, v136, v137, v138, v139, v140, v141, v142, v143, ((), ()), ()), v144, v145, v146, v147, v148, (v149, ()), ()))
                        else
                          bif decide (0 ≤ 0) && decide (0 ≤ (wr .i64 ((v141.length : Int) - 1))) && decide ((wr .i64 ((v141.length : Int) - 1)) ≤ (v141.length : Int)) then
                            let x183 : (List Int) := (sub v141 0 (wr .i64 ((v141.length : Int) - 1)))
                            bif decide (v132 = 0) then
                              f31_l2 k j v130 v131 (wr .i64 (v132 + 1)) v133 v134 v135 v136 v137 v138 x183 v140 v141 v142 v143 v144 v145 v146 v147 v148 v149 nx
                            else
                              bif decide (v132 = 1) then
                                f31_l2 k j v130 v131 (wr .i64 (v132 + 1)) v133 v134 v135 v136 v137 v138 v139 x183 v141 v142 v143 v144 v145 v146 v147 v148 v149 nx
                              else
                                bif decide (v132 = 2) then
                                  f31_l2 k j v130 v131 (wr .i64 (v132 + 1)) v133 v134 v135 v136 v137 v138 v139 v140 x183 v142 v143 v144 v145 v146 v147 v148 v149 nx
                                else
                                  bif decide (v132 = 3) then
                                    f31_l2 k j v130 v131 (wr .i64 (v132 + 1)) v133 v134 v135 v136 v137 v138 v139 v140 v141 x183 v143 v144 v145 v146 v147 v148 v149 nx
                                  else
                                    bif decide (v132 = 4) then
                                      f31_l2 k j v130 v131 (wr .i64 (v132 + 1)) v133 v134 v135 v136 v137 v138 v139 v140 v141 v142 x183 v144 v145 v146 v147 v148 v149 nx
                                    else
                                      none
                          else
                            none
                  else
                    bif decide (v132 = 3) then
                      bif (!x171.isSome) then
                        f31_l2 k j v130 v131 (wr .i64 (v132 + 1)) v133 v134 v135 v136 v137 v138 v139 v140 v141 v142 v143 v144 v145 v146 v147 v148 v149 nx
                      else
                        (f30 k v130 (x171.getD 0)).bind fun x176 =>
                        bif (!x176.1.1) then
                          (f32 k v142).bind fun x177 =>
                          bif decide ((x177.2.1.length + [v131].length) * 8 ≤ roomy) then
                            bif decide (v132 = 0) then
                              f31_l2 k j v130 v131 (wr .i64 (v132 + 1)) v133 v134 v135 v136 v137 v138 (x177.2.1 ++ [v131]) v140 v141 v142 v143 v144 v145 v146 v147 v148 v149 nx
                            else
                              bif decide (v132 = 1) then
                                f31_l2 k j v130 v131 (wr .i64 (v132 + 1)) v133 v134 v135 v136 v137 v138 v139 (x177.2.1 ++ [v131]) v141 v142 v143 v144 v145 v146 v147 v148 v149 nx
                              else
                                bif decide (v132 = 2) then
                                  f31_l2 k j v130 v131 (wr .i64 (v132 + 1)) v133 v134 v135 v136 v137 v138 v139 v140 (x177.2.1 ++ [v131]) v142 v143 v144 v145 v146 v147 v148 v149 nx
                                else
                                  bif decide (v132 = 3) then
                                    f31_l2 k j v130 v131 (wr .i64 (v132 + 1)) v133 v134 v135 v136 v137 v138 v139 v140 v141 (x177.2.1 ++ [v131]) v143 v144 v145 v146 v147 v148 v149 nx
                                  else
                                    bif decide (v132 = 4) then
                                      f31_l2 k j v130 v131 (wr .i64 (v132 + 1)) v133 v134 v135 v136 v137 v138 v139 v140 v141 v142 (x177.2.1 ++ [v131]) v144 v145 v146 v147 v148 v149 nx
                                    else
                                      none
                          else
                            none
                        else
                          (getI v142 (wr .i64 ((v142.length : Int) - 1))).bind fun x178 =>
                          bif (x178 != (x171.getD 0)) then
                            nx.2.1 ((false, ()), ((v133, v134, v135, v136, v137, v138, v139, v140, v141, v142, v143, ((), ()), ()), v144, v145, v146, v147, v148, (v149, ()), ()))
                          else
                            bif decide (0 ≤ 0) && decide (0 ≤ (wr .i64 ((v142.length : Int) - 1))) && decide ((wr .i64 ((v142.length : Int) - 1)) ≤ (v142.length : Int)) then
                              let x179 : (List Int) := (sub v142 0 (wr .i64 ((v142.length : Int) - 1)))
                              bif decide (v132 = 0) then
                                f31_l2 k j v130 v131 (wr .i64 (v132 + 1)) v133 v134 v135 v136 v137 v138 x179 v140 v141 v142 v143 v144 v145 v146 v147 v148 v149 nx
                              else
                                bif decide (v132 = 1) then
                                  f31_l2 k j v130 v131 (wr .i64 (v132 + 1)) v133 v134 v135 v136 v137 v138 v139 x179 v141 v142 v143 v144 v145 v146 v147 v148 v149 nx
                                else
                                  bif decide (v132 = 2) then
                                    f31_l2 k j v130 v131 (wr .i64 (v132 + 1)) v133 v134 v135 v136 v137 v138 v139 v140 x179 v142 v143 v144 v145 v146 v147 v148 v149 nx
                                  else
                                    bif decide (v132 = 3) then
                                      f31_l2 k j v130 v131 (wr .i64 (v132 + 1)) v133 v134 v135 v136 v137 v138 v139 v140 v141 x179 v143 v144 v145 v146 v147 v148 v149 nx
                                    else
                                      bif decide (v132 = 4) then
                                        f31_l2 k j v130 v131 (wr .i64 (v132 + 1)) v133 v134 v135 v136 v137 v138 v139 v140 v141 v142 x179 v144 v145 v146 v147 v148 v149 nx
                                      else
                                        none
                            else
                              none
                    else
                      bif decide (v132 = 4) then
                        bif (!x171.isSome) then
                          f31_l2 k j v130 v131 (wr .i64 (v132 + 1)) v133 v134 v135 v136 v137 v138 v139 v140 v141 v142 v143 v144 v145 v146 v147 v148 v149 nx
                        else
                          (f30 k v130 (x171.getD 0)).bind fun x172 =>
                          bif (!x172.1.1) then
                            (f32 k v143).bind fun x173 =>
                            bif decide ((x173.2.1.length + [v131].length) * 8 ≤ roomy) then
                              bif decide (v132 = 0) then
                                f31_l2 k j v130 v131 (wr .i64 (v132 + 1)) v133 v134 v135 v136 v137 v138 (x173.2.1 ++ [v131]) v140 v141 v142 v143 v144 v145 v146 v147 v148 v149 nx
                              else
                                bif decide (v132 = 1) then
                                  f31_l2 k j v130 v131 (wr .i64 (v132 + 1)) v133 v134 v135 v136 v137 v138 v139 (x173.2.1 ++ [v131]) v141 v142 v143 v144 v145 v146 v147 v148 v149 nx
                                else
                                  bif decide (v132 = 2) then
                                    f31_l2 k j v130 v131 (wr .i64 (v132 + 1)) v133 v134 v135 v136 v137 v138 v139 v140 (x173.2.1 ++ [v131]) v142 v143 v144 v145 v146 v147 v148 v149 nx
                                  else
                                    bif decide (v132 = 3) then
                                      f31_l2 k j v130 v131 (wr .i64 (v132 + 1)) v133 v134 v135 v136 v137 v138 v139 v140 v141 (x173.2.1 ++ [v131]) v143 v144 v145 v146 v147 v148 v149 nx
                                    else
                                      bif decide (v132 = 4) then
                                        f31_l2 k j v130 v131 (wr .i64 (v132 + 1)) v133 v134 v135 v136 v137 v138 v139 v140 v141 v142 (x173.2.1 ++ [v131]) v144 v145 v146 v147 v148 v149 nx
                                      else
                                        none
                            else
                              none
                          else
                            (getI v143 (wr .i64 ((v143.length : Int) - 1))).bind fun x174 =>
                            bif (x174 != (x171.getD 0)) then
                              nx.2.1 ((false, ()), ((v133, v134, v135, v136, v137, v138, v139, v140, v141, v142, v143, ((), ()), ()), v144, v145, v146, v147, v148, (v149, ()), ()))
                            else
                              bif decide (0 ≤ 0) && decide (0 ≤ (wr .i64 ((v143.length : Int) - 1))) && decide ((wr .i64 ((v143.length : Int) - 1)) ≤ (v143.length : Int)) then
                                let x175 : (List Int) := (sub v143 0 (wr .i64 ((v143.length : Int) - 1)))
                                bif decide (v132 = 0) then
                                  f31_l2 k j v130 v131 (wr .i64 (v132 + 1)) v133 v134 v135 v136 v137 v138 x175 v140 v141 v142 v143 v144 v145 v146 v147 v148 v149 nx
                                else
                                  bif decide (v132 = 1) then
                                    f31_l2 k j v130 v131 (wr .i64 (v132 + 1)) v133 v134 v135 v136 v137 v138 v139 x175 v141 v142 v143 v144 v145 v146 v147 v148 v149 nx
                                  else
                                    bif decide (v132 = 2) then
                                      f31_l2 k j v130 v131 (wr .i64 (v132 + 1)) v133 v134 v135 v136 v137 v138 v139 v140 x175 v142 v143 v144 v145 v146 v147 v148 v149 nx
                                    else
                                      bif decide (v132 = 3) then
                                        f31_l2 k j v130 v131 (wr .i64 (v132 + 1)) v133 v134 v135 v136 v137 v138 v139 v140 v141 x175 v143 v144 v145 v146 v147 v148 v149 nx
                                      else
                                        bif decide (v132 = 4) then
                                          f31_l2 k j v130 v131 (wr .i64 (v132 + 1)) v133 v134 v135 v136 v137 v138 v139 v140 v141 v142 x175 v144 v145 v146 v147 v148 v149 nx
                                        else
                                          none
                              else
                                none
                      else
                        none
            else
              bif decide (v132 = 4) then
                let x150 : (Option Int) := (mapGet (fun (a b : Int) => a == b) v131 v148)
                bif decide (v132 = 0) then
                  bif (!x150.isSome) then
                    f31_l2 k j v130 v131 (wr .i64 (v132 + 1)) v133 v134 v135 v136 v137 v138 v139 v140 v141 v142 v143 v144 v145 v146 v147 v148 v149 nx
                  else
                    (f30 k v130 (x150.getD 0)).bind fun x167 =>
                    bif (!x167.1.1) then
                      (f32 k v139).bind fun x168 =>
                      bif decide ((x168.2.1.length + [v131].length) * 8 ≤ roomy) then
                        bif decide (v132 = 0) then
                          f31_l2 k j v130 v131 (wr .i64 (v132 + 1)) v133 v134 v135 v136 v137 v138 (x168.2.1 ++ [v131]) v140 v141 v142 v143 v144 v145 v146 v147 v148 v149 nx
                        else
                          bif decide (v132 = 1) then
                            f31_l2 k j v130 v131 (wr .i64 (v132 + 1)) v133 v134 v135 v136 v137 v138 v139 (x168.2.1 ++ [v131]) v141 v142 v143 v144 v145 v146 v147 v148 v149 nx
                          else
                            bif decide (v132 = 2) then
                              f31_l2 k j v130 v131 (wr .i64 (v132 + 1)) v133 v134 v135 v136 v137 v138 v139 v140 (x168.2.1 ++ [v131]) v142 v143 v144 v145 v146 v147 v148 v149 nx
                            else
                              bif decide (v132 = 3) then
                                f31_l2 k j v130 v131 (wr .i64 (v132 + 1)) v133 v134 v135 v136 v137 v138 v139 v140 v141 (x168.2.1 ++ [v131]) v143 v144 v145 v146 v147 v148 v149 nx
                              else
                                bif decide (v132 = 4) then
                                  f31_l2 k j v130 v131 (wr .i64 (v132 + 1)) v133 v134 v135 v136 v137 v138 v139 v140 v141 v142 (x168.2.1 ++ [v131]) v144 v145 v146 v147 v148 v149 nx
                                else
                                  none
                      else
                        none
                    else
                      (getI v139 (wr .i64 ((v139.length : Int) - 1))).bind fun x169 =>
                      bif (x169 != (x150.getD 0)) then
                        nx.2.1 ((false, ()), ((v133, v134, v135, v136, v137, v138, v139, v140, v141, v142, v143, ((), ()), ()), v144, v145, v146, v147, v148, (v149, ()), ()))
                      else
                        bif decide (0 ≤ 0) && decide (0 ≤ (wr .i64 ((v139.length : Int) - 1))) && decide ((wr .i64 ((v139.length : Int) - 1)) ≤ (v139.length : Int)) then
                          let x170 : (List Int) := (sub v139 0 (wr .i64 ((v139.length : Int) - 1)))
                          bif decide (v132 = 0) then
                            f31_l2 k j v130 v131 (wr .i64 (v132 + 1)) v133 v134 v135 v136 v137 v138 x170 v140 v141 v142 v143 v144 v145 v146 v147 v148 v149 nx
                          else
                            bif decide (v132 = 1) then
                              f31_l2 k j v130 v131 (wr .i64 (v132 + 1)) v133 v134 v135 v136 v137 v138 v139 x170 v141 v142 v143 v144 v145 v146 v147 v148 v149 nx
                            else
                              bif decide (v132 = 2) then
                                f31_l2 k j v130 v131 (wr .i64 (v132 + 1)) v133 v134 v135 v136 v137 v138 v139 v140 x170 v142 v143 v144 v145 v146 v147 v148 v149 nx
                              else
                                bif decide (v132 = 3) then
                                  f31_l2 k j v130 v131 (wr .i64 (v132 + 1)) v133 v134 v135 v136 v137 v138 v139 v140 v141 x170 v143 v144 v145 v146 v147 v148 v149 nx
                                else
                                  bif decide (v132 = 4) then
                                    f31_l2 k j v130 v131 (wr .i64 (v132 + 1)) v133 v134 v135 v136 v137 v138 v139 v140 v141 v142 x170 v144 v145 v146 v147 v148 v149 nx
                                  else
                                    none
                        else
                          none
                else
                  bif decide (v132 = 1) then
                    bif (!x150.isSome) then
                      f31_l2 k j v130 v131 (wr .i64 (v132 + 1)) v133 v134 v135 v136 v137 v138 v139 v140 v141 v142 v143 v144 v145 v146 v147 v148 v149 nx
                    else
                      (f30 k v130 (x150.getD 0)).bind fun x163 =>
                      bif (!x163.1.1) then
                        (f32 k v140).bind fun x164 =>
                        bif decide ((x164.2.1.length + [v131].length) * 8 ≤ roomy) then
                          bif decide (v132 = 0) then
                            f31_l2 k j v130 v131 (wr .i64 (v132 + 1)) v133 v134 v135 v136 v137 v138 (x164.2.1 ++ [v131]) v140 v141 v142 v143 v144 v145 v146 v147 v148 v149 nx
                          else
                            bif decide (v132 = 1) then
                              f31_l2 k j v130 v131 (wr .i64 (v132 + 1)) v133 v134 v135 v136 v137 v138 v139 (x164.2.1 ++ [v131]) v141 v142 v143 v144 v145 v146 v147 v148 v149 nx
                            else
                              bif decide (v132 = 2) then
                                f31_l2 k j v130 v131 (wr .i64 (v132 + 1)) v133 v134 v135 v136 v137 v138 v139 v140 (x164.2.1 ++ [v131]) v142 v143 v144 v145 v146 v147 v148 v149 nx
                              else
                                bif decide (v132 = 3) then
                                  f31_l2 k j v130 v131 (wr .i64 (v132 + 1)) v133 v134 v135 v136 v137 v138 v139 v140 v141 (x164.2.1 ++ [v131]) v143 v144 v145 v146 v147 v148 v149 nx
                                else
                                  bif decide (v132 = 4) then
                                    f31_l2 k j v130 v131 (wr .i64 (v132 + 1)) v133 v134 v135 v136 v137 v138 v139 v140 v141 v142 (x164.2.1 ++ [v131]) v144 v145 v146 v147 v148 v149 nx
                                  else
                                    none
                        else
                          none
                      else
                        (getI v140 (wr .i64 ((v140.length : Int) - 1))).bind fun x165 =>
                        bif (x165 != (x150.getD 0)) then
                          nx.2.1 ((false, ()), ((v133, v134, v135, v136, v137, v138, v139, v140, v141, v142, v143, ((), ()), ()), v144, v145, v146, v147, v148, (v149, ()), ()))
                        else
                          bif decide (0 ≤ 0) && decide (0 ≤ (wr .i64 ((v140.length : Int) - 1))) && decide ((wr .i64 ((v140.length : Int) - 1)) ≤ (v140.length : Int)) then
                            let x166 : (List Int) := (sub v140 0 (wr .i64 ((v140.length : Int) - 1)))
                            bif decide (v132 = 0) then
                              f31_l2 k j v130 v131 (wr .i64 (v132 + 1)) v133 v134 v135 v136 v137 v138 x166 v140 v141 v142 v143 v144 v145 v146 v147 v148 v149 nx
                            else
                              bif decide (v132 = 1) then
                                f31_l2 k j v130 v131 (wr .i64 (v132 + 1)) v133 v134 v135 v136 v137 v138 v139 x166 v141 v142 v143 v144 v145 v146 v147 v148 v149 nx
                              else
                                bif decide (v132 = 2) then
                                  f31_l2 k j v130 v131 (wr .i64 (v132 + 1)) v133 v134 v135 v136 v137 v138 v139 v140 x166 v142 v143 v144 v145 v146 v147 v148 v149 nx
                                else
                                  bif decide (v132 = 3) then
                                    f31_l2 k j v130 v131 (wr .i64 (v132 + 1)) v133 v134 v135 v136 v137 v138 v139 v140 v141 x166 v143 v144 v145 v146 v147 v148 v149 nx
                                  else
                                    bif decide (v132 = 4) then
                                      f31_l2 k j v130 v131 (wr .i64 (v132 + 1)) v133 v134 v135 v136 v137 v138 v139 v140 v141 v142 x166 v144 v145 v146 v147 v148 v149 nx
                                    else
                                      none
                          else
                            none
                  else
                    bif decide (v132 = 2) then
                      bif (!x150.isSome) then
                        f31_l2 k j v130 v131 (wr .i64 (v132 + 1)) v133 v134 v135 v136 v137 v138 v139 v140 v141 v142 v143 v144 v145 v146 v147 v148 v149 nx
                      else
                        (f30 k v130 (x150.getD 0)).bind fun x159 =>
                        bif (!x159.1.1) then
                          (f32 k v141).bind fun x160 =>
                          bif decide ((x160.2.1.length + [v131].length) * 8 ≤ roomy) then
                            bif decide (v132 = 0) then
                              f31_l2 k j v130 v131 (wr .i64 (v132 + 1)) v133 v134 v135 v136 v137 v138 (x160.2.1 ++ [v131]) v140 v141 v142 v143 v144 v145 v146 v147 v148 v149 nx
                            else
                              bif decide (v132 = 1) then
                                f31_l2 k j v130 v131 (wr .i64 (v132 + 1)) v133 v134 v135 v136 v137 v138 v139 (x160.2.1 ++ [v131]) v141 v142 v143 v144 v145 v146 v147 v148 v149 nx
                              else
                                bif decide (v132 = 2) then
                                  f31_l2 k j v130 v131 (wr .i64 (v132 + 1)) v133 v134 v135 v136 v137 v138 v139 v140 (x160.2.1 ++ [v131]) v142 v143 v144 v145 v146 v147 v148 v149 nx
                                else
                                  bif decide (v132 = 3) then
                                    f31_l2 k j v130 v131 (wr .i64 (v132 + 1)) v133 v134 v135 v136 v137 v138 v139 v140 v141 (x160.2.1 ++ [v131]) v143 v144 v145 v146 v147 v148 v149 nx
                                  else
                                    bif decide (v132 = 4) then
                                      f31_l2 k j v130 v131 (wr .i64 (v132 + 1)) v133 v134 v135 v136 v137 v138 v139 v140 v141 v142 (x160.2.1 ++ [v131]) v144 v145 v146 v147 v148 v149 nx
                                    else
                                      none
                          else
                            none
                        else
                          (getI v141 (wr .i64 ((v141.length : Int) - 1))).bind fun x161 =>
                          bif (x161 != (x150.getD 0)) then
                            nx.2.1 ((false, ()), ((v133, v134, v135, v136, v137, v138, v139, v140, v141, v142, v143, ((), ()), ()), v144, v145, v146, v147, v148, (v149, ()), ()))
                          else
                            bif decide (0 ≤ 0) && decide (0 ≤ (wr .i64 ((v141.length : Int) - 1))) && decide ((wr .i64 ((v141.length : Int) - 1)) ≤ (v141.length : Int)) then
                              let x162 : (List Int) := (sub v141 0 (wr .i64 ((v141.length : Int) - 1)))
                              bif decide (v132 = 0) then
                                f31_l2 k j v130 v131 (wr .i64 (v132 + 1)) v133 v134 v135 v136 v137 v138 x162 v140 v141 v142 v143 v144 v145 v146 v147 v148 v149 nx
                              else
                                bif decide (v132 = 1) then
                                  f31_l2 k j v130 v131 (wr .i64 (v132 + 1)) v133 v134 v135 v136 v137 v138 v139 x162 v141 v142 v143 v144 v145 v146 v147 v148 v149 nx
                                else
                                  bif decide (v132 = 2) then
                                    f31_l2 k j v130 v131 (wr .i64 (v132 + 1)) v133 v134 v135 v136 v137 v138 v139 v140 x162 v142 v143 v144 v145 v146 v147 v148 v149 nx
                                  else
                                    bif decide (v132 = 3) then
                                      f31_l2 k j v130 v131 (wr .i64 (v132 + 1)) v133 v134 v135 v136 v137 v138 v139 v140 v141 x162 v143 v144 v145 v146 v147 v148 v149 nx
                                    else
                                      bif decide (v132 = 4) then
                                        f31_l2 k j v130 v131 (wr .i64 (v132 + 1)) v133 v134 v135 v136 v137 v138 v139 v140 v141 v142 x162 v144 v145 v146 v147 v148 v149 nx
                                      else
                                        none
                            else
                              none
                    else
                      bif decide (v132 = 3) then
                        bif (!x150.isSome) then
                          f31_l2 k j v130 v131 (wr .i64 (v132 + 1)) v133 v134 v135 v136 v137 v138 v139 v140 v141 v142 v143 v144 v145 v146 v147 v148 v149 nx
                        else
                          (f30 k v130 (x150.getD 0)).bind fun x155 =>
                          bif (!x155.1.1) then
                            (f32 k v142).bind fun x156 =>
                            bif decide ((x156.2.1.length + [v131].length) * 8 ≤ roomy) then
                              bif decide (v132 = 0) then
                                f31_l2 k j v130 v131 (wr .i64 (v132 + 1)) v133 v134 v135 v136 v137 v138 (x156.2.1 ++ [v131]) v140 v141 v142 v143 v144 v145 v146 v147 v148 v149 nx
                              else
                                bif decide (v132 = 1) then
                                  f31_l2 k j v130 v131 (wr .i64 (v132 + 1)) v133 v134 v135 v136 v137 v138 v139 (x156.2.1 ++ [v131]) v141 v142 v143 v144 v145 v146 v147 v148 v149 nx
                                else
                                  bif decide (v132 = 2) then
                                    f31_l2 k j v130 v131 (wr .i64 (v132 + 1)) v133 v134 v135 v136 v137 v138 v139 v140 (x156.2.1 ++ [v131]) v142 v143 v144 v145 v146 v147 v148 v149 nx
                                  else
                                    bif decide (v132 = 3) then
                                      f31_l2 k j v130 v131 (wr .i64 (v132 + 1)) v133 v134 v135 v136 v137 v138 v139 v140 v141 (x156.2.1 ++ [v131]) v143 v144 v145 v146 v147 v148 v149 nx
                                    else
                                      bif decide (v132 = 4) then
                                        f31_l2 k j v130 v131 (wr .i64 (v132 + 1)) v133 v134 v135 v136 v137 v138 v139 v140 v141 v142 (x156.2.1 ++ [v131]) v144 v145 v146 v147 v148 v149 nx
                                      else
                                        none
                            else
                              none
                          else
                            (getI v142 (wr .i64 ((v142.length : Int) - 1))).bind fun x157 =>
                            bif (x157 != (x150.getD 0)) then
                              nx.2.1 ((false, ()), ((v133, v134, v135, v136, v137, v138, v139, v140, v141, v142, v143, ((), ()), ()), v144, v145, v146, v147, v148, (v149, ()), ()))
                            else
                              bif decide (0 ≤ 0) && decide (0 ≤ (wr .i64 ((v142.length : Int) - 1))) && decide ((wr .i64 ((v142.length : Int) - 1)) ≤ (v142.length : Int)) then
                                let x158 : (List Int) := (sub v142 0 (wr .i64 ((v142.length : Int) - 1)))
                                bif decide (v132 = 0) then
                                  f31_l2 k j v130 v131 (wr .i64 (v132 + 1)) v133 v134 v135 v136 v137 v138 x158 v140 v141 v142 v143 v144 v145 v146 v147 v148 v149 nx
                                else
                                  bif decide (v132 = 1) then
                                    f31_l2 k j v130 v131 (wr .i64 (v132 + 1)) v133 v134 v135 v136 v137 v138 v139 x158 v141 v142 v143 v144 v145 v146 v147 v148 v149 nx
                                  else
                                    bif decide (v132 = 2) then
                                      f31_l2 k j v130 v131 (wr .i64 (v132 + 1)) v133 v134 v135 v136 v137 v138 v139 v140 x158 v142 v143 v144 v145 v146 v147 v148 v149 nx
                                    else
                                      bif decide (v132 = 3) then
                                        f31_l2 k j v130 v131 (wr .i64 (v132 + 1)) v133 v134 v135 v136 v137 v138 v139 v140 v141 x158 v143 v144 v145 v146 v147 v148 v149 nx
                                      else
                                        bif decide (v132 = 4) then
                                          f31_l2 k j v130 v131 (wr .i64 (v132 + 1)) v133 v134 v135 v136 v137 v138 v139 v140 v141 v142 x158 v144 v145 v146 v147 v148 v149 nx
                                        else
                                          none
                              else
                                none
                      else
                        bif decide (v132 = 4) then
                          bif (!x150.isSome) then
                            f31_l2 k j v130 v131 (wr .i64 (v132 + 1)) v133 v134 v135 v136 v137 v138 v139 v140 v141 v142 v143 v144 v145 v146 v147 v148 v149 nx
                          else
                            (f30 k v130 (x150.getD 0)).bind fun x151 =>
                            bif (!x151.1.1) then
                              (f32 k v143).bind fun x152 =>
                              bif decide ((x152.2.1.length + [v131].length) * 8 ≤ roomy) then
                                bif decide (v132 = 0) then
                                  f31_l2 k j v130 v131 (wr .i64 (v132 + 1)) v133 v134 v135 v136 v137 v138 (x152.2.1 ++ [v131]) v140 v141 v142 v143 v144 v145 v146 v147 v148 v149 nx
                                else
                                  bif decide (v132 = 1) then
                                    f31_l2 k j v130 v131 (wr .i64 (v132 + 1)) v133 v134 v135 v136 v137 v138 v139 (x152.2.1 ++ [v131]) v141 v142 v143 v144 v145 v146 v147 v148 v149 nx
                                  else
                                    bif decide (v132 = 2) then
                                      f31_l2 k j v130 v131 (wr .i64 (v132 + 1)) v133 v134 v135 v136 v137 v138 v139 v140 (x152.2.1 ++ [v131]) v142 v143 v144 v145 v146 v147 v148 v149 nx
                                    else
                                      bif decide (v132 = 3) then
                                        f31_l2 k j v130 v131 (wr .i64 (v132 + 1)) v133 v134 v135 v136 v137 v138 v139 v140 v141 (x152.2.1 ++ [v131]) v143 v144 v145 v146 v147 v148 v149 nx
                                      else
                                        bif decide (v132 = 4) then
                                          f31_l2 k j v130 v131 (wr .i64 (v132 + 1)) v133 v134 v135 v136 v137 v138 v139 v140 v141 v142 (x152.2.1 ++ [v131]) v144 v145 v146 v147 v148 v149 nx
                                        else
                                          none
                              else
                                none
                            else
                              (getI v143 (wr .i64 ((v143.length : Int) - 1))).bind fun x153 =>
                              bif (x153 != (x150.getD 0)) then
                                nx.2.1 ((false, ()), ((v133, v134, v135, v136, v137, v138, v139, v140, v141, v142, v143, ((), ()), ()), v144, v145, v146, v147, v148, (v149, ()), ()))
                              else
                                bif decide (0 ≤ 0) && decide (0 ≤ (wr .i64 ((v143.length : Int) - 1))) && decide ((wr .i64 ((v143.length : Int) - 1)) ≤ (v143.length : Int)) then
                                  let x154 : (List Int) := (sub v143 0 (wr .i64 ((v143.length : Int) - 1)))
                                  bif decide (v132 = 0) then
                                    f31_l2 k j v130 v131 (wr .i64 (v132 + 1)) v133 v134 v135 v136 v137 v138 x154 v140 v141 v142 v143 v144 v145 v146 v147 v148 v149 nx
                                  else
                                    bif decide (v132 = 1) then
                                      f31_l2 k j v130 v131 (wr .i64 (v132 + 1)) v133 v134 v135 v136 v137 v138 v139 x154 v141 v142 v143 v144 v145 v146 v147 v148 v149 nx
                                    else
                                      bif decide (v132 = 2) then
                                        f31_l2 k j v130 v131 (wr .i64 (v132 + 1)) v133 v134 v135 v136 v137 v138 v139 v140 x154 v142 v143 v144 v145 v146 v147 v148 v149 nx
                                      else
                                        bif decide (v132 = 3) then
                                          f31_l2 k j v130 v131 (wr .i64 (v132 + 1)) v133 v134 v135 v136 v137 v138 v139 v140 v141 x154 v143 v144 v145 v146 v147 v148 v149 nx
                                        else
                                          bif decide (v132 = 4) then
                                            f31_l2 k j v130 v131 (wr .i64 (v132 + 1)) v133 v134 v135 v136 v137 v138 v139 v140 v141 v142 x154 v144 v145 v146 v147 v148 v149 nx
                                          else
                                            none
                                else
                                  none
                        else
                          none
              else
                none
    else
      nx.1 ((), ((v133, v134, v135, v136, v137, v138, v139, v140, v141, v142, v143, ((), ()), ()), v144, v145, v146, v147, v148, (v149, ()), ()))
def cf31_l2 (k : Nat) : Cut := { sp := { temps := [(0, .c (.lit (.ptr 3000000 0 0 0))), (1, .c (.sl (.int .i64))), (2, .c (.int .i64)), (7, .c (.int .i64))], blocks := [(3000000, .box 49 [(.int .i64), (.mapl 3000001), (.mapl 3000002), (.mapl 3000003), (.mapl 3000004), (.mapl 3000005), (.sl (.int .i64)), (.sl (.int .i64)), (.sl (.int .i64)), (.sl (.int .i64)), (.sl (.int .i64)), (.cap (.lit (.fn 16)) (.lit (.ptr 3000006 0 0 0)))]), (3000001, .mp 45 false false (.int .i64) (.int .i64)), (3000002, .mp 45 false false (.int .i64) (.int .i64)), (3000003, .mp 45 false false (.int .i64) (.int .i64)), (3000004, .mp 45 false false (.int .i64) (.int .i64)), (3000005, .mp 45 false false (.int .i64) (.int .i64)), (3000006, .box 2 [(.int .i64)])], ren := [(3000000, some 3000000), (3000001, some 3000001), (3000002, some 3000002), (3000003, some 3000003), (3000004, some 3000004), (3000005, some 3000005), (3000006, some 3000006)] }, outs := [(.exit 0, { temps := [], blocks := [(3000000, .box 49 [(.int .i64), (.mapl 3000001), (.mapl 3000002), (.mapl 3000003), (.mapl 3000004), (.mapl 3000005), (.sl (.int .i64)), (.sl (.int .i64)), (.sl (.int .i64)), (.sl (.int .i64)), (.sl (.int .i64)), (.cap (.lit (.fn 16)) (.lit (.ptr 3000006 0 0 0)))]), (3000001, .mp 45 false false (.int .i64) (.int .i64)), (3000002, .mp 45 false false (.int .i64) (.int .i64)), (3000003, .mp 45 false false (.int .i64) (.int .i64)), (3000004, .mp 45 false false (.int .i64) (.int .i64)), (3000005, .mp 45 false false (.int .i64) (.int .i64)), (3000006, .box 2 [(.int .i64)])], ren := [(3000000, some 3000000), (3000001, some 3000001), (3000002, some 3000002), (3000003, some 3000003), (3000004, some 3000004), (3000005, some 3000005), (3000006, some 3000006)] }), (.ret, { temps := [(6, .c .bool)], blocks := [(3000000, .box 49 [(.int .i64), (.mapl 3000001), (.mapl 3000002), (.mapl 3000003), (.mapl 3000004), (.mapl 3000005), (.sl (.int .i64)), (.sl (.int .i64)), (.sl (.int .i64)), (.sl (.int .i64)), (.sl (.int .i64)), (.cap (.lit (.fn 16)) (.lit (.ptr 3000006 0 0 0)))]), (3000001, .mp 45 false false (.int .i64) (.int .i64)), (3000002, .mp 45 false false (.int .i64) (.int .i64)), (3000003, .mp 45 false false (.int .i64) (.int .i64)), (3000004, .mp 45 false false (.int .i64) (.int .i64)), (3000005, .mp 45 false false (.int .i64) (.int .i64)), (3000006, .box 2 [(.int .i64)])], ren := [(3000000, some 3000000), (3000001, some 3000001), (3000002, some 3000002), (3000003, some 3000003), (3000004, some 3000004), (3000005, some 3000005), (3000006, some 3000006)] })], F := fun ρ j v nx => f31_l2 k j v.1.2.1 v.1.2.2.1 v.1.2.2.2.1 v.2.1.1 v.2.1.2.1 v.2.1.2.2.1 v.2.1.2.2.2.1 v.2.1.2.2.2.2.1 v.2.1.2.2.2.2.2.1 v.2.1.2.2.2.2.2.2.1 v.2.1.2.2.2.2.2.2.2.1 v.2.1.2.2.2.2.2.2.2.2.1 v.2.1.2.2.2.2.2.2.2.2.2.1 v.2.1.2.2.2.2.2.2.2.2.2.2.1 v.2.2.1 v.2.2.2.1 v.2.2.2.2.1 v.2.2.2.2.2.1 v.2.2.2.2.2.2.1 v.2.2.2.2.2.2.2.1.1 nx }
def f31 (k : Nat) (a1 : (List Int)) (a2 : Int) (a3 : Int) (a4 : Bool) (a5 : Bool) (a6 : Bool) (a7 : Bool) (a8 : Bool) (a9 : (List Int)) (a10 : (List Int)) (a11 : (List Int)) (a12 : (List Int)) (a13 : (List Int)) (a14 : (List (Int × Int))) (a15 : (List (Int × Int))) (a16 : (List (Int × Int))) (a17 : (List (Int × Int))) (a18 : (List (Int × Int))) (a19 : Int) : Option ((Bool × Unit) × ((Int × Bool × Bool × Bool × Bool × Bool × (List Int) × (List Int) × (List Int) × (List Int) × (List Int) × (Unit × Unit) × Unit) × (List (Int × Int)) × (List (Int × Int)) × (List (Int × Int)) × (List (Int × Int)) × (List (Int × Int)) × (Int × Unit) × Unit)) :=
  f31_l2 k k a1 a2 1 a3 a4 a5 a6 a7 a8 a9 a10 a11 a12 a13 a14 a15 a16 a17 a18 a19
    (fun x128 : (Unit × ((Int × Bool × Bool × Bool × Bool × Bool × (List Int) × (List Int) × (List Int) × (List Int) × (List Int) × (Unit × Unit) × Unit) × (List (Int × Int)) × (List (Int × Int)) × (List (Int × Int)) × (List (Int × Int)) × (List (Int × Int)) × (Int × Unit) × Unit)) =>
      some ((true, ()), ((x128.2.1.1, x128.2.1.2.1, x128.2.1.2.2.1, x128.2.1.2.2.2.1, x128.2.1.2.2.2.2.1, x128.2.1.2.2.2.2.2.1, x128.2.1.2.2.2.2.2.2.1, x128.2.1.2.2.2.2.2.2.2.1, x128.2.1.2.2.2.2.2.2.2.2.1, x128.2.1.2.2.2.2.2.2.2.2.2.1, x128.2.1.2.2.2.2.2.2.2.2.2.2.1, ((), ()), ()), x128.2.2.1, x128.2.2.2.1, x128.2.2.2.2.1, x128.2.2.2.2.2.1, x128.2.2.2.2.2.2.1, (x128.2.2.2.2.2.2.2.1.1, ()), ())),
    fun x129 : ((Bool × Unit) × ((Int × Bool × Bool × Bool × Bool × Bool × (List Int) × (List Int) × (List Int) × (List Int) × (List Int) × (Unit × Unit) × Unit) × (List (Int × Int)) × (List (Int × Int)) × (List (Int × Int)) × (List (Int × Int)) × (List (Int × Int)) × (Int × Unit) × Unit)) =>
      some ((x129.1.1, ()), ((x129.2.1.1, x129.2.1.2.1, x129.2.1.2.2.1, x129.2.1.2.2.2.1, x129.2.1.2.2.2.2.1, x129.2.1.2.2.2.2.2.1, x129.2.1.2.2.2.2.2.2.1, x129.2.1.2.2.2.2.2.2.2.1, x129.2.1.2.2.2.2.2.2.2.2.1, x129.2.1.2.2.2.2.2.2.2.2.2.1, x129.2.1.2.2.2.2.2.2.2.2.2.2.1, ((), ()), ()), x129.2.2.1, x129.2.2.2.1, x129.2.2.2.2.1, x129.2.2.2.2.2.1, x129.2.2.2.2.2.2.1, (x129.2.2.2.2.2.2.2.1.1, ()), ())),
    ())
def ef31 : Entry := { id := 31, ar := { temps := [(0, .c (.box 3000000)), (1, .c (.sl (.int .i64))), (2, .c (.int .i64))], blocks := [(3000000, .box 49 [(.int .i64), (.mapr 3000001), (.mapr 3000002), (.mapr 3000003), (.mapr 3000004), (.mapr 3000005), (.sl (.int .i64)), (.sl (.int .i64)), (.sl (.int .i64)), (.sl (.int .i64)), (.sl (.int .i64)), (.cap (.lit (.fn 16)) (.box 3000006))]), (3000001, .mp 45 false false (.int .i64) (.int .i64)), (3000002, .mp 45 false false (.int .i64) (.int .i64)), (3000003, .mp 45 false false (.int .i64) (.int .i64)), (3000004, .mp 45 false false (.int .i64) (.int .i64)), (3000005, .mp 45 false false (.int .i64) (.int .i64)), (3000006, .box 2 [(.int .i64)])], ren := [] }, res := { temps := [(0, .c .bool)], blocks := [(3000000, .box 49 [(.int .i64), (.mapl 3000001), (.mapl 3000002), (.mapl 3000003), (.mapl 3000004), (.mapl 3000005), (.sl (.int .i64)), (.sl (.int .i64)), (.sl (.int .i64)), (.sl (.int .i64)), (.sl (.int .i64)), (.cap (.lit (.fn 16)) (.lit (.ptr 3000006 0 0 0)))]), (3000001, .mp 45 false false (.int .i64) (.int .i64)), (3000002, .mp 45 false false (.int .i64) (.int .i64)), (3000003, .mp 45 false false (.int .i64) (.int .i64)), (3000004, .mp 45 false false (.int .i64) (.int .i64)), (3000005, .mp 45 false false (.int .i64) (.int .i64)), (3000006, .box 2 [(.int .i64)])], ren := [(3000000, some 3000000), (3000001, some 3000001), (3000002, some 3000002), (3000003, some 3000003), (3000004, some 3000004), (3000005, some 3000005), (3000006, some 3000006)] }, f := fun k v => f31 k v.1.2.1 v.1.2.2.1 v.2.1.1 v.2.1.2.1 v.2.1.2.2.1 v.2.1.2.2.2.1 v.2.1.2.2.2.2.1 v.2.1.2.2.2.2.2.1 v.2.1.2.2.2.2.2.2.1 v.2.1.2.2.2.2.2.2.2.1 v.2.1.2.2.2.2.2.2.2.2.1 v.2.1.2.2.2.2.2.2.2.2.2.1 v.2.1.2.2.2.2.2.2.2.2.2.2.1 v.2.2.1 v.2.2.2.1 v.2.2.2.2.1 v.2.2.2.2.2.1 v.2.2.2.2.2.2.1 v.2.2.2.2.2.2.2.1.1 }
def gf31 (k : Nat) : Full := { tt := tt, n := 69, fns := [ef30, ef32b], trunc := [], tails := [], touch := [(6, [(10, [3000000])]), (9, [(6, [2005300]), (10, [3000000])])], opens := [], shapes := [], closes := [], k := k, glob := glob, cuts := [(2, (cf31_l2 k))], joins := [] }
theorem of31_l2 (k : Nat) : CutOk (gf31 k) (cf31_l2 k) (theLoop Try.f31 2) := fun ρ v nx => ⟨by kernel_rfl, fun j => by kernel_rfl⟩
theorem qf31 (k : Nat) : AllP (bodyL (gf31 k) Try.f31) := by
  have h : (CutOk (gf31 k) (cf31_l2 k) (theLoop Try.f31 2) ∧ True) = AllP (bodyL (gf31 k) Try.f31) := by kernel_rfl
  exact Eq.mp h (And.intro (of31_l2 k) (trivial))
theorem sf31 : Sound Try.prog glob ef31 := sound_of base (fn := Try.f31) Try.func31 (by kernel_rfl) gf31 (fun _ => ⟨rfl, rfl⟩) (fun k j => ⟨sf30.at j, sf32b.at j, trivial⟩) qf31 (fun k v => by kernel_rfl)

/-! impl.stacker).walk -/
def f17_l4 {ρ : Type} (self : (List Int) → Int → Bool → Bool → Bool → Bool → Bool → (List Int) → (List Int) → (List Int) → (List Int) → (List Int) → (List (Int × Int)) → (List (Int × Int)) → (List (Int × Int)) → (List (Int × Int)) → (List (Int × Int)) → Int → Option ((Bool × Unit) × ((Int × Bool × Bool × Bool × Bool × Bool × (List Int) × (List Int) × (List Int) × (List Int) × (List Int) × (Unit × Unit) × Unit) × (List (Int × Int)) × (List (Int × Int)) × (List (Int × Int)) × (List (Int × Int)) × (List (Int × Int)) × (Int × Unit) × Unit))) (k : Nat) : Nat → (List Int) → Int → Int → Int → Bool → Bool → Bool → Bool → Bool → (List Int) → (List Int) → (List Int) → (List Int) → (List Int) → (List (Int × Int)) → (List (Int × Int)) → (List (Int × Int)) → (List (Int × Int)) → (List (Int × Int)) → Int → (((Unit × ((Int × Bool × Bool × Bool × Bool × Bool × (List Int) × (List Int) × (List Int) × (List Int) × (List Int) × (Unit × Unit) × Unit) × (List (Int × Int)) × (List (Int × Int)) × (List (Int × Int)) × (List (Int × Int)) × (List (Int × Int)) × (Int × Unit) × Unit)) → Option ρ) × (((Bool × Unit) × ((Int × Bool × Bool × Bool × Bool × Bool × (List Int) × (List Int) × (List Int) × (List Int) × (List Int) × (Unit × Unit) × Unit) × (List (Int × Int)) × (List (Int × Int)) × (List (Int × Int)) × (List (Int × Int)) × (List (Int × Int)) × (Int × Unit) × Unit)) → Option ρ) × Unit) → Option ρ
  | 0, _, _, _, _, _, _, _, _, _, _, _, _, _, _, _, _, _, _, _, _, _ => none
  | j + 1, v38, v39, v40, v41, v42, v43, v44, v45, v46, v47, v48, v49, v50, v51, v52, v53, v54, v55, v56, v57, nx =>
    bif (decide (v40 < v39)) then
      (f30 k v38 v40).bind fun x59 =>
      bif x59.1.1 then
        f17_l4 self k j v38 v39 (wr .i64 (v40 + 1)) v41 v42 v43 v44 v45 v46 v47 v48 v49 v50 v51 v52 v53 v54 v55 v56 v57 nx
      else
        (f31 k v38 v40 v41 v42 v43 v44 v45 v46 v47 v48 v49 v50 v51 v52 v53 v54 v55 v56 v57).bind fun x60 =>
        bif x60.1.1 then
          (f32 k v38).bind fun x61 =>
          bif decide ((x61.2.1.length + [v40].length) * 8 ≤ roomy) then
            (self (x61.2.1 ++ [v40]) x60.2.1.1 x60.2.1.2.1 x60.2.1.2.2.1 x60.2.1.2.2.2.1 x60.2.1.2.2.2.2.1 x60.2.1.2.2.2.2.2.1 x60.2.1.2.2.2.2.2.2.1 x60.2.1.2.2.2.2.2.2.2.1 x60.2.1.2.2.2.2.2.2.2.2.1 x60.2.1.2.2.2.2.2.2.2.2.2.1 x60.2.1.2.2.2.2.2.2.2.2.2.2.1 x60.2.2.1 x60.2.2.2.1 x60.2.2.2.2.1 x60.2.2.2.2.2.1 x60.2.2.2.2.2.2.1 x60.2.2.2.2.2.2.2.1.1).bind fun x62 =>
            bif (!x62.1.1) then
              nx.2.1 ((false, ()), ((x62.2.1.1, x62.2.1.2.1, x62.2.1.2.2.1, x62.2.1.2.2.2.1, x62.2.1.2.2.2.2.1, x62.2.1.2.2.2.2.2.1, x62.2.1.2.2.2.2.2.2.1, x62.2.1.2.2.2.2.2.2.2.1, x62.2.1.2.2.2.2.2.2.2.2.1, x62.2.1.2.2.2.2.2.2.2.2.2.1, x62.2.1.2.2.2.2.2.2.2.2.2.2.1, ((), ()), ()), x62.2.2.1, x62.2.2.2.1, x62.2.2.2.2.1, x62.2.2.2.2.2.1, x62.2.2.2.2.2.2.1, (x62.2.2.2.2.2.2.2.1.1, ()), ()))
            else
              f17_l4 self k j v38 v39 (wr .i64 (v40 + 1)) x62.2.1.1 x62.2.1.2.1 x62.2.1.2.2.1 x62.2.1.2.2.2.1 x62.2.1.2.2.2.2.1 x62.2.1.2.2.2.2.2.1 v47 v48 v49 v50 v51 x62.2.2.1 x62.2.2.2.1 x62.2.2.2.2.1 x62.2.2.2.2.2.1 x62.2.2.2.2.2.2.1 x62.2.2.2.2.2.2.2.1.1 nx
          else
            none
        else
          f17_l4 self k j v38 v39 (wr .i64 (v40 + 1)) x60.2.1.1 x60.2.1.2.1 x60.2.1.2.2.1 x60.2.1.2.2.2.1 x60.2.1.2.2.2.2.1 x60.2.1.2.2.2.2.2.1 v47 v48 v49 v50 v51 x60.2.2.1 x60.2.2.2.1 x60.2.2.2.2.1 x60.2.2.2.2.2.1 x60.2.2.2.2.2.2.1 x60.2.2.2.2.2.2.2.1.1 nx
    else
      nx.1 ((), ((v41, v42, v43, v44, v45, v46, v47, v48, v49, v50, v51, ((), ()), ()), v52, v53, v54, v55, v56, (v57, ()), ()))
def cf17_l4 (self : (List Int) → Int → Bool → Bool → Bool → Bool → Bool → (List Int) → (List Int) → (List Int) → (List Int) → (List Int) → (List (Int × Int)) → (List (Int × Int)) → (List (Int × Int)) → (List (Int × Int)) → (List (Int × Int)) → Int → Option ((Bool × Unit) × ((Int × Bool × Bool × Bool × Bool × Bool × (List Int) × (List Int) × (List Int) × (List Int) × (List Int) × (Unit × Unit) × Unit) × (List (Int × Int)) × (List (Int × Int)) × (List (Int × Int)) × (List (Int × Int)) × (List (Int × Int)) × (Int × Unit) × Unit))) (k : Nat) : Cut := { sp := { temps := [(0, .c (.lit (.ptr 3000000 0 0 0))), (1, .c (.sl (.int .i64))), (23, .c (.int .i64)), (24, .c (.int .i64))], blocks := [(3000000, .box 49 [(.int .i64), (.mapl 3000001), (.mapl 3000002), (.mapl 3000003), (.mapl 3000004), (.mapl 3000005), (.sl (.int .i64)), (.sl (.int .i64)), (.sl (.int .i64)), (.sl (.int .i64)), (.sl (.int .i64)), (.cap (.lit (.fn 16)) (.lit (.ptr 3000006 0 0 0)))]), (3000001, .mp 45 false false (.int .i64) (.int .i64)), (3000002, .mp 45 false false (.int .i64) (.int .i64)), (3000003, .mp 45 false false (.int .i64) (.int .i64)), (3000004, .mp 45 false false (.int .i64) (.int .i64)), (3000005, .mp 45 false false (.int .i64) (.int .i64)), (3000006, .box 2 [(.int .i64)])], ren := [(3000000, some 3000000), (3000001, some 3000001), (3000002, some 3000002), (3000003, some 3000003), (3000004, some 3000004), (3000005, some 3000005), (3000006, some 3000006)] }, outs := [(.exit 0, { temps := [], blocks := [(3000000, .box 49 [(.int .i64), (.mapl 3000001), (.mapl 3000002), (.mapl 3000003), (.mapl 3000004), (.mapl 3000005), (.sl (.int .i64)), (.sl (.int .i64)), (.sl (.int .i64)), (.sl (.int .i64)), (.sl (.int .i64)), (.cap (.lit (.fn 16)) (.lit (.ptr 3000006 0 0 0)))]), (3000001, .mp 45 false false (.int .i64) (.int .i64)), (3000002, .mp 45 false false (.int .i64) (.int .i64)), (3000003, .mp 45 false false (.int .i64) (.int .i64)), (3000004, .mp 45 false false (.int .i64) (.int .i64)), (3000005, .mp 45 false false (.int .i64) (.int .i64)), (3000006, .box 2 [(.int .i64)])], ren := [(3000000, some 3000000), (3000001, some 3000001), (3000002, some 3000002), (3000003, some 3000003), (3000004, some 3000004), (3000005, some 3000005), (3000006, some 3000006)] }), (.ret, { temps := [(4, .c .bool)], blocks := [(3000000, .box 49 [(.int .i64), (.mapl 3000001), (.mapl 3000002), (.mapl 3000003), (.mapl 3000004), (.mapl 3000005), (.sl (.int .i64)), (.sl (.int .i64)), (.sl (.int .i64)), (.sl (.int .i64)), (.sl (.int .i64)), (.cap (.lit (.fn 16)) (.lit (.ptr 3000006 0 0 0)))]), (3000001, .mp 45 false false (.int .i64) (.int .i64)), (3000002, .mp 45 false false (.int .i64) (.int .i64)), (3000003, .mp 45 false false (.int .i64) (.int .i64)), (3000004, .mp 45 false false (.int .i64) (.int .i64)), (3000005, .mp 45 false false (.int .i64) (.int .i64)), (3000006, .box 2 [(.int .i64)])], ren := [(3000000, some 3000000), (3000001, some 3000001), (3000002, some 3000002), (3000003, some 3000003), (3000004, some 3000004), (3000005, some 3000005), (3000006, some 3000006)] })], F := fun ρ j v nx => f17_l4 self k j v.1.2.1 v.1.2.2.1 v.1.2.2.2.1 v.2.1.1 v.2.1.2.1 v.2.1.2.2.1 v.2.1.2.2.2.1 v.2.1.2.2.2.2.1 v.2.1.2.2.2.2.2.1 v.2.1.2.2.2.2.2.2.1 v.2.1.2.2.2.2.2.2.2.1 v.2.1.2.2.2.2.2.2.2.2.1 v.2.1.2.2.2.2.2.2.2.2.2.1 v.2.1.2.2.2.2.2.2.2.2.2.2.1 v.2.2.1 v.2.2.2.1 v.2.2.2.2.1 v.2.2.2.2.2.1 v.2.2.2.2.2.2.1 v.2.2.2.2.2.2.2.1.1 nx }
def f17 : Nat → (List Int) → Int → Bool → Bool → Bool → Bool → Bool → (List Int) → (List Int) → (List Int) → (List Int) → (List Int) → (List (Int × Int)) → (List (Int × Int)) → (List (Int × Int)) → (List (Int × Int)) → (List (Int × Int)) → Int → Option ((Bool × Unit) × ((Int × Bool × Bool × Bool × Bool × Bool × (List Int) × (List Int) × (List Int) × (List Int) × (List Int) × (Unit × Unit) × Unit) × (List (Int × Int)) × (List (Int × Int)) × (List (Int × Int)) × (List (Int × Int)) × (List (Int × Int)) × (Int × Unit) × Unit))
  | 0, _, _, _, _, _, _, _, _, _, _, _, _, _, _, _, _, _, _ => none
  | k + 1, a1, a2, a3, a4, a5, a6, a7, a8, a9, a10, a11, a12, a13, a14, a15, a16, a17, a18 =>
    (f29 k a1).bind fun x34 =>
    bif (x34.1.1 == a2) then
      (f16 k a1 a18).bind fun x35 =>
      some ((x35.1.1, ()), ((a2, a3, a4, a5, a6, a7, a8, a9, a10, a11, a12, ((), ()), ()), a13, a14, a15, a16, a17, (x35.2.1.1, ()), ()))
    else
      f17_l4 (f17 k) k k a1 a2 0 a2 a3 a4 a5 a6 a7 a8 a9 a10 a11 a12 a13 a14 a15 a16 a17 a18
        (fun x36 : (Unit × ((Int × Bool × Bool × Bool × Bool × Bool × (List Int) × (List Int) × (List Int) × (List Int) × (List Int) × (Unit × Unit) × Unit) × (List (Int × Int)) × (List (Int × Int)) × (List (Int × Int)) × (List (Int × Int)) × (List (Int × Int)) × (Int × Unit) × Unit)) =>
          some ((true, ()), ((x36.2.1.1, x36.2.1.2.1, x36.2.1.2.2.1, x36.2.1.2.2.2.1, x36.2.1.2.2.2.2.1, x36.2.1.2.2.2.2.2.1, x36.2.1.2.2.2.2.2.2.1, x36.2.1.2.2.2.2.2.2.2.1, x36.2.1.2.2.2.2.2.2.2.2.1, x36.2.1.2.2.2.2.2.2.2.2.2.1, x36.2.1.2.2.2.2.2.2.2.2.2.2.1, ((), ()), ()), x36.2.2.1, x36.2.2.2.1, x36.2.2.2.2.1, x36.2.2.2.2.2.1, x36.2.2.2.2.2.2.1, (x36.2.2.2.2.2.2.2.1.1, ()), ())),
        fun x37 : ((Bool × Unit) × ((Int × Bool × Bool × Bool × Bool × Bool × (List Int) × (List Int) × (List Int) × (List Int) × (List Int) × (Unit × Unit) × Unit) × (List (Int × Int)) × (List (Int × Int)) × (List (Int × Int)) × (List (Int × Int)) × (List (Int × Int)) × (Int × Unit) × Unit)) =>
          some ((x37.1.1, ()), ((x37.2.1.1, x37.2.1.2.1, x37.2.1.2.2.1, x37.2.1.2.2.2.1, x37.2.1.2.2.2.2.1, x37.2.1.2.2.2.2.2.1, x37.2.1.2.2.2.2.2.2.1, x37.2.1.2.2.2.2.2.2.2.1, x37.2.1.2.2.2.2.2.2.2.2.1, x37.2.1.2.2.2.2.2.2.2.2.2.1, x37.2.1.2.2.2.2.2.2.2.2.2.2.1, ((), ()), ()), x37.2.2.1, x37.2.2.2.1, x37.2.2.2.2.1, x37.2.2.2.2.2.1, x37.2.2.2.2.2.2.1, (x37.2.2.2.2.2.2.2.1.1, ()), ())),
        ())
def ef17 : Entry := { id := 17, ar := { temps := [(0, .c (.box 3000000)), (1, .c (.sl (.int .i64)))], blocks := [(3000000, .box 49 [(.int .i64), (.mapr 3000001), (.mapr 3000002), (.mapr 3000003), (.mapr 3000004), (.mapr 3000005), (.sl (.int .i64)), (.sl (.int .i64)), (.sl (.int .i64)), (.sl (.int .i64)), (.sl (.int .i64)), (.cap (.lit (.fn 16)) (.box 3000006))]), (3000001, .mp 45 false false (.int .i64) (.int .i64)), (3000002, .mp 45 false false (.int .i64) (.int .i64)), (3000003, .mp 45 false false (.int .i64) (.int .i64)), (3000004, .mp 45 false false (.int .i64) (.int .i64)), (3000005, .mp 45 false false (.int .i64) (.int .i64)), (3000006, .box 2 [(.int .i64)])], ren := [] }, res := { temps := [(0, .c .bool)], blocks := [(3000000, .box 49 [(.int .i64), (.mapl 3000001), (.mapl 3000002), (.mapl 3000003), (.mapl 3000004), (.mapl 3000005), (.sl (.int .i64)), (.sl (.int .i64)), (.sl (.int .i64)), (.sl (.int .i64)), (.sl (.int .i64)), (.cap (.lit (.fn 16)) (.lit (.ptr 3000006 0 0 0)))]), (3000001, .mp 45 false false (.int .i64) (.int .i64)), (3000002, .mp 45 false false (.int .i64) (.int .i64)), (3000003, .mp 45 false false (.int .i64) (.int .i64)), (3000004, .mp 45 false false (.int .i64) (.int .i64)), (3000005, .mp 45 false false (.int .i64) (.int .i64)), (3000006, .box 2 [(.int .i64)])], ren := [(3000000, some 3000000), (3000001, some 3000001), (3000002, some 3000002), (3000003, some 3000003), (3000004, some 3000004), (3000005, some 3000005), (3000006, some 3000006)] }, f := fun k v => f17 k v.1.2.1 v.2.1.1 v.2.1.2.1 v.2.1.2.2.1 v.2.1.2.2.2.1 v.2.1.2.2.2.2.1 v.2.1.2.2.2.2.2.1 v.2.1.2.2.2.2.2.2.1 v.2.1.2.2.2.2.2.2.2.1 v.2.1.2.2.2.2.2.2.2.2.1 v.2.1.2.2.2.2.2.2.2.2.2.1 v.2.1.2.2.2.2.2.2.2.2.2.2.1 v.2.2.1 v.2.2.2.1 v.2.2.2.2.1 v.2.2.2.2.2.1 v.2.2.2.2.2.2.1 v.2.2.2.2.2.2.2.1.1 }
def gf17 (k : Nat) : Full := { tt := tt, n := 53, fns := [ef29, ef16, ef30, ef31, ef32b, ef17], trunc := [], tails := [], touch := [], opens := [], shapes := [], closes := [], boxes := [6], k := k, glob := glob, cuts := [(4, (cf17_l4 (f17 k) k))], joins := [] }
theorem of17_l4 (k : Nat) : CutOk (gf17 k) (cf17_l4 (f17 k) k) (theLoop Try.f17 4) := fun ρ v nx => ⟨by kernel_rfl, fun j => by kernel_rfl⟩
theorem qf17 (k : Nat) : AllP (bodyL (gf17 k) Try.f17) := by
  have h : (CutOk (gf17 k) (cf17_l4 (f17 k) k) (theLoop Try.f17 4) ∧ True) = AllP (bodyL (gf17 k) Try.f17) := by kernel_rfl
  exact Eq.mp h (And.intro (of17_l4 k) (trivial))
theorem sf17 : Sound Try.prog glob ef17 := sound_rec base (fn := Try.f17) Try.func17 (by kernel_rfl) gf17 (fun _ => ⟨rfl, rfl, rfl⟩) (fun k j h => ⟨sf29.at j, sf16.at j, sf30.at j, sf31.at j, sf32b.at j, h, trivial⟩) qf17 (fun v => by kernel_rfl) (fun k v => by kernel_rfl)

/-! impl.CountStacks -/
def f6 (k : Nat) (a1 : Int) (a2 : Int) : Option ((Int × Int × Unit) × Unit) :=
  (f14 k a1 a2).bind fun x6 =>
  bif (x6.1.1 != 0) then
    some ((0, x6.1.1, ()), ())
  else
    (f15 k a1 a2 0).bind fun x7 =>
    (f17 k ([] : List Int) x7.2.2.1.1 x7.2.2.1.2.1 x7.2.2.1.2.2.1 x7.2.2.1.2.2.2.1 x7.2.2.1.2.2.2.2.1 x7.2.2.1.2.2.2.2.2.1 ([] : List Int) ([] : List Int) ([] : List Int) ([] : List Int) ([] : List Int) x7.2.2.2.1 x7.2.2.2.2.1 x7.2.2.2.2.2.1 x7.2.2.2.2.2.2.1 x7.2.2.2.2.2.2.2.1 x7.2.1.1).bind fun x8 =>
    some ((x8.2.2.2.2.2.2.2.1.1, 0, ()), ())
def ef6 : Entry := { id := 6, ar := { temps := [(0, .c (.int .i64)), (1, .c (.int .i64))], blocks := [], ren := [] }, res := { temps := [(0, .c (.int .i64)), (1, .c (.int .i64))], blocks := [], ren := [] }, f := fun k v => f6 k v.1.1 v.1.2.1 }
def gf6 (k : Nat) : Full := { tt := tt, n := 20, fns := [ef14, ef15, ef17], trunc := [], tails := [], touch := [], opens := [], shapes := [], closes := [], k := k, glob := glob, cuts := [], joins := [] }
theorem qf6 (k : Nat) : AllP (bodyL (gf6 k) Try.f6) := by
  have h : True = AllP (bodyL (gf6 k) Try.f6) := by kernel_rfl
  exact Eq.mp h trivial
theorem sf6 : Sound Try.prog glob ef6 := sound_of base (fn := Try.f6) Try.func6 (by kernel_rfl) gf6 (fun _ => ⟨rfl, rfl⟩) (fun k j => ⟨sf14.at j, sf15.at j, sf17.at j, trivial⟩) qf6 (fun k v => by kernel_rfl)

/-! laws.FnExactCountStacks -/
def f3 (k : Nat) (a1 : Int) (a2 : Int) : Option ((Bool × Unit) × Unit) :=
  (f5 k a1 a2).bind fun x3 =>
  (f6 k a1 a2).bind fun x4 =>
  bif (x4.1.1 != x3.1.1) then
    some ((false, ()), ())
  else
    bif (x4.1.2.1 != x3.1.2.1) then
      some ((false, ()), ())
    else
      some ((true, ()), ())
def ef3 : Entry := { id := 3, ar := { temps := [(0, .c (.int .i64)), (1, .c (.int .i64))], blocks := [], ren := [] }, res := { temps := [(0, .c .bool)], blocks := [], ren := [] }, f := fun k v => f3 k v.1.1 v.1.2.1 }
def gf3 (k : Nat) : Full := { tt := tt, n := 29, fns := [ef5, ef6], trunc := [], tails := [], touch := [], opens := [], shapes := [], closes := [], k := k, glob := glob, cuts := [], joins := [] }
theorem qf3 (k : Nat) : AllP (bodyL (gf3 k) Try.f3) := by
  have h : True = AllP (bodyL (gf3 k) Try.f3) := by kernel_rfl
  exact Eq.mp h trivial
theorem sf3 : Sound Try.prog glob ef3 := sound_of base (fn := Try.f3) Try.func3 (by kernel_rfl) gf3 (fun _ => ⟨rfl, rfl⟩) (fun k j => ⟨sf5.at j, sf6.at j, trivial⟩) qf3 (fun k v => by kernel_rfl)

/-! spec.StacksOf -/
def f7 (k : Nat) (a1 : Int) (a2 : Int) (a3 : Int) : Option ((Unit × Int × Unit) × ((List (List Int)) × Unit)) :=
  (f12 k a1 a2).bind fun x7 =>
  bif (!x7.1.1) then
    some (((), 1, ()), (([] : List (List Int)), ()))
  else
    bif (decide ((wr .i64 (a1 * a2)) > 9)) then
      some (((), 2, ()), (([] : List (List Int)), ()))
    else
      (f18 k a3 1 200).bind fun x9 =>
      bif (!x9.1.1) then
        some (((), 2, ()), (([] : List (List Int)), ()))
      else
        (f13 k a1 a2 a3).bind fun x10 =>
        some (((), 0, ()), (x10.2.2.2.1, ()))
def ef7 : Entry := { id := 7, ar := { temps := [(0, .c (.int .i64)), (1, .c (.int .i64)), (2, .c (.int .i64))], blocks := [], ren := [] }, res := { temps := [(0, .c (.row 4000000)), (1, .c (.int .i64))], blocks := [(4000000, .own 38 (.s 2 (.d (.int .i64))))], ren := [] }, f := fun k v => f7 k v.1.1 v.1.2.1 v.1.2.2.1 }
def gf7 (k : Nat) : Full := { tt := tt, n := 30, fns := [ef12, ef18, ef13], trunc := [], tails := [], touch := [], opens := [], shapes := [(12, (.s 2 (.d (.int .i64)))), (22, (.s 2 (.d (.int .i64))))], closes := [], k := k, glob := glob, cuts := [], joins := [] }
theorem qf7 (k : Nat) : AllP (bodyL (gf7 k) Try.f7) := by
  have h : True = AllP (bodyL (gf7 k) Try.f7) := by kernel_rfl
  exact Eq.mp h trivial
theorem sf7 : Sound Try.prog glob ef7 := sound_of base (fn := Try.f7) Try.func7 (by kernel_rfl) gf7 (fun _ => ⟨rfl, rfl⟩) (fun k j => ⟨sf12.at j, sf18.at j, sf13.at j, trivial⟩) qf7 (fun k v => by kernel_rfl)

/-! impl.newStacker -/
def f15a_l7 {ρ : Type} (k : Nat) : Nat → Int → Int → Int → Int → Int → (List (List Int)) → Int → Bool → Bool → Bool → Bool → Bool → Int → (List (Int × Int)) → (List (Int × Int)) → (List (Int × Int)) → (List (Int × Int)) → (List (Int × Int)) → (List (Int × Int)) → ((((Int × Int × Unit × Int × Unit) × ((Unit × Unit) × (List (List Int)) × (Int × Bool × Bool × Bool × Bool × Bool × Unit × Unit × Unit × Unit × Unit × ((Unit × Unit) × Int) × Unit) × (List (Int × Int)) × (List (Int × Int)) × (List (Int × Int)) × (List (Int × Int)) × (List (Int × Int)) × Unit)) → Option ρ) × Unit) → Option ρ
  | 0, _, _, _, _, _, _, _, _, _, _, _, _, _, _, _, _, _, _, _, _ => none
  | j + 1, v485, v486, v487, v488, v489, v490, v491, v492, v493, v494, v495, v496, v497, v498, v499, v500, v501, v502, v503, nx =>
    bif (decide (v489 < v488)) then
      bif decide (0 ≤ v489) && decide (v489 < (v498.length : Int)) then
        (v498[v489.toNat]?).bind fun x504 =>
        bif decide (v487 = 0) then
          bif decide (v487 = 0) then
            bif v492 then
              none
            else
              let x697 : (Option Int) := (mapGet (fun (a b : Int) => a == b) x504.1 v499)
              let x698 : (List (Int × Int)) := (mapEnt (fun (a b : Int) => a == b) x504.1 0 v499)
              bif v492 then
                none
              else
                (getI x698 (mapIdx (fun (a b : Int) => a == b) x504.1 v499 : Int)).bind fun x699 =>
                let x700 : (List (Int × Int)) := (x698.set (mapIdx (fun (a b : Int) => a == b) x504.1 v499 : Int).toNat (x699.1, x504.2))
                bif v492 then
                  none
                else
                  let x701 : (Option Int) := (mapGet (fun (a b : Int) => a == b) x504.2 x700)
                  let x702 : (List (Int × Int)) := (mapEnt (fun (a b : Int) => a == b) x504.2 0 x700)
                  bif v492 then
                    none
                  else
                    (getI x702 (mapIdx (fun (a b : Int) => a == b) x504.2 x700 : Int)).bind fun x703 =>
                    let x704 : (List (Int × Int)) := (x702.set (mapIdx (fun (a b : Int) => a == b) x504.2 x700 : Int).toNat (x703.1, x504.1))
                    f15a_l7 k j v485 v486 v487 v488 (wr .i64 (v489 + 1)) v490 v491 v492 v493 v494 v495 v496 v497 v498 x704 v500 v501 v502 v503 nx
          else
            bif decide (v487 = 1) then
              bif v492 then
                none
              else
                let x689 : (Option Int) := (mapGet (fun (a b : Int) => a == b) x504.1 v499)
                let x690 : (List (Int × Int)) := (mapEnt (fun (a b : Int) => a == b) x504.1 0 v499)
                bif v492 then
                  none
                else
                  (getI x690 (mapIdx (fun (a b : Int) => a == b) x504.1 v499 : Int)).bind fun x691 =>
                  let x692 : (List (Int × Int)) := (x690.set (mapIdx (fun (a b : Int) => a == b) x504.1 v499 : Int).toNat (x691.1, x504.2))
                  bif v493 then
                    none
                  else
                    let x693 : (Option Int) := (mapGet (fun (a b : Int) => a == b) x504.2 v500)
                    let x694 : (List (Int × Int)) := (mapEnt (fun (a b : Int) => a == b) x504.2 0 v500)
                    bif v493 then
                      none
                    else
                      (getI x694 (mapIdx (fun (a b : Int) => a == b) x504.2 v500 : Int)).bind fun x695 =>
                      let x696 : (List (Int × Int)) := (x694.set (mapIdx (fun (a b : Int) => a == b) x504.2 v500 : Int).toNat (x695.1, x504.1))
                      f15a_l7 k j v485 v486 v487 v488 (wr .i64 (v489 + 1)) v490 v491 v492 v493 v494 v495 v496 v497 v498 x692 x696 v501 v502 v503 nx
            else
              bif decide (v487 = 2) then
                bif v492 then
                  none
                else
                  let x681 : (Option Int) := (mapGet (fun (a b : Int) => a == b) x504.1 v499)
                  let x682 : (List (Int × Int)) := (mapEnt (fun (a b : Int) => a == b) x504.1 0 v499)
                  bif v492 then
                    none
                  else
                    (getI x682 (mapIdx (fun (a b : Int) => a == b) x504.1 v499 : Int)).bind fun x683 =>
                    let x684 : (List (Int × Int)) := (x682.set (mapIdx (fun (a b : Int) => a == b) x504.1 v499 : Int).toNat (x683.1, x504.2))
                    bif v494 then
                      none
                    else
                      let x685 : (Option Int) := (mapGet (fun (a b : Int) => a == b) x504.2 v501)
                      let x686 : (List (Int × Int)) := (mapEnt (fun (a b : Int) => a == b) x504.2 0 v501)
                      bif v494 then
                        none
                      else
                        (getI x686 (mapIdx (fun (a b : Int) => a == b) x504.2 v501 : Int)).bind fun x687 =>
                        let x688 : (List (Int × Int)) := (x686.set (mapIdx (fun (a b : Int) => a == b) x504.2 v501 : Int).toNat (x687.1, x504.1))
                        f15a_l7 k j v485 v486 v487 v488 (wr .i64 (v489 + 1)) v490 v491 v492 v493 v494 v495 v496 v497 v498 x684 v500 x688 v502 v503 nx
              else
                bif decide (v487 = 3) then
                  bif v492 then
                    none
                  else
                    let x673 : (Option Int) := (mapGet (fun (a b : Int) => a == b) x504.1 v499)
                    let x674 : (List (Int × Int)) := (mapEnt (fun (a b : Int) => a == b) x504.1 0 v499)
                    bif v492 then
                      none
                    else
                      (getI x674 (mapIdx (fun (a b : Int) => a == b) x504.1 v499 : Int)).bind fun x675 =>
                      let x676 : (List (Int × Int)) := (x674.set (mapIdx (fun (a b : Int) => a == b) x504.1 v499 : Int).toNat (x675.1, x504.2))
                      bif v495 then
                        none
                      else
                        let x677 : (Option Int) := (mapGet (fun (a b : Int) => a == b) x504.2 v502)
                        let x678 : (List (Int × Int)) := (mapEnt (fun (a b : Int) => a == b) x504.2 0 v502)
                        bif v495 then
                          none
                        else
                          (getI x678 (mapIdx (fun (a b : Int) => a == b) x504.2 v502 : Int)).bind fun x679 =>
                          let x680 : (List (Int × Int)) := (x678.set (mapIdx (fun (a b : Int) => a == b) x504.2 v502 : Int).toNat (x679.1, x504.1))
                          f15a_l7 k j v485 v486 v487 v488 (wr .i64 (v489 + 1)) v490 v491 v492 v493 v494 v495 v496 v497 v498 x676 v500 v501 x680 v503 nx
                else
                  bif decide (v487 = 4) then
                    bif v492 then
                      none
                    else
                      let x665 : (Option Int) := (mapGet (fun (a b : Int) => a == b) x504.1 v499)
                      let x666 : (List (Int × Int)) := (mapEnt (fun (a b : Int) => a == b) x504.1 0 v499)
                      bif v492 then
                        none
                      else
                        (getI x666 (mapIdx (fun (a b : Int) => a == b) x504.1 v499 : Int)).bind fun x667 =>
                        let x668 : (List (Int × Int)) := (x666.set (mapIdx (fun (a b : Int) => a == b) x504.1 v499 : Int).toNat (x667.1, x504.2))
                        bif v496 then
                          none
                        else
                          let x669 : (Option Int) := (mapGet (fun (a b : Int) => a == b) x504.2 v503)
                          let x670 : (List (Int × Int)) := (mapEnt (fun (a b : Int) => a == b) x504.2 0 v503)
                          bif v496 then
                            none
                          else
                            (getI x670 (mapIdx (fun (a b : Int) => a == b) x504.2 v503 : Int)).bind fun x671 =>
                            let x672 : (List (Int × Int)) := (x670.set (mapIdx (fun (a b : Int) => a == b) x504.2 v503 : Int).toNat (x671.1, x504.1))
                            f15a_l7 k j v485 v486 v487 v488 (wr .i64 (v489 + 1)) v490 v491 v492 v493 v494 v495 v496 v497 v498 x668 v500 v501 v502 x672 nx
                  else
                    none
        else
          bif decide (v487 = 1) then
            bif decide (v487 = 0) then
              bif v493 then
                none
              else
                let x657 : (Option Int) := (mapGet (fun (a b : Int) => a == b) x504.1 v500)
                let x658 : (List (Int × Int)) := (mapEnt (fun (a b : Int) => a == b) x504.1 0 v500)
                bif v493 then
                  none
                else
                  (getI x658 (mapIdx (fun (a b : Int) => a == b) x504.1 v500 : Int)).bind fun x659 =>
                  let x660 : (List (Int × Int)) := (x658.set (mapIdx (fun (a b : Int) => a == b) x504.1 v500 : Int).toNat (x659.1, x504.2))
                  bif v492 then
                    none
                  else
                    let x661 : (Option Int) := (mapGet (fun (a b : Int) => a == b) x504.2 v499)
                    let x662 : (List (Int × Int)) := (mapEnt (fun (a b : Int) => a == b) x504.2 0 v499)
                    bif v492 then
                      none
                    else
                      (getI x662 (mapIdx (fun (a b : Int) => a == b) x504.2 v499 : Int)).bind fun x663 =>
                      let x664 : (List (Int × Int)) := (x662.set (mapIdx (fun (a b : Int) => a == b) x504.2 v499 : Int).toNat (x663.1, x504.1))
                      f15a_l7 k j v485 v486 v487 v488 (wr .i64 (v489 + 1)) v490 v491 v492 v493 v494 v495 v496 v497 v498 x664 x660 v501 v502 v503 nx
            else
              bif decide (v487 = 1) then
                bif v493 then
                  none
                else
                  let x649 : (Option Int) := (mapGet (fun (a b : Int) => a == b) x504.1 v500)
                  let x650 : (List (Int × Int)) := (mapEnt (fun (a b : Int) => a == b) x504.1 0 v500)
                  bif v493 then
                    none
                  else
                    (getI x650 (mapIdx (fun (a b : Int) => a == b) x504.1 v500 : Int)).bind fun x651 =>
                    let x652 : (List (Int × Int)) := (x650.set (mapIdx (fun (a b : Int) => a == b) x504.1 v500 : Int).toNat (x651.1, x504.2))
                    bif v493 then
                      none
                    else
                      let x653 : (Option Int) := (mapGet (fun (a b : Int) => a == b) x504.2 x652)
                      let x654 : (List (Int × Int)) := (mapEnt (fun (a b : Int) => a == b) x504.2 0 x652)
                      bif v493 then
                        none
                      else
                        (getI x654 (mapIdx (fun (a b : Int) => a == b) x504.2 x652 : Int)).bind fun x655 =>
                        let x656 : (List (Int × Int)) := (x654.set (mapIdx (fun (a b : Int) => a == b) x504.2 x652 : Int).toNat (x655.1, x504.1))
                        f15a_l7 k j v485 v486 v487 v488 (wr .i64 (v489 + 1)) v490 v491 v492 v493 v494 v495 v496 v497 v498 v499 x656 v501 v502 v503 nx
              else
                bif decide (v487 = 2) then
                  bif v493 then
                    none
                  else
                    let x641 : (Option Int) := (mapGet (fun (a b : Int) => a == b) x504.1 v500)
                    let x642 : (List (Int × Int)) := (mapEnt (fun (a b : Int) => a == b) x504.1 0 v500)
                    bif v493 then
                      none
                    else
                      (getI x642 (mapIdx (fun (a b : Int) => a == b) x504.1 v500 : Int)).bind fun x643 =>
                      let x644 : (List (Int × Int)) := (x642.set (mapIdx (fun (a b : Int) => a == b) x504.1 v500 : Int).toNat (x643.1, x504.2))
                      bif v494 then
                        none
                      else
                        let x645 : (Option Int) := (mapGet (fun (a b : Int) => a == b) x504.2 v501)
                        let x646 : (List (Int × Int)) := (mapEnt (fun (a b : Int) => a == b) x504.2 0 v501)
                        bif v494 then
                          none
                        else
                          (getI x646 (mapIdx (fun (a b : Int) => a == b) x504.2 v501 : Int)).bind fun x647 =>
                          let x648 : (List (Int × Int)) := (x646.set (mapIdx (fun (a b : Int) => a == b) x504.2 v501 : Int).toNat (x647.1, x504.1))
                          f15a_l7 k j v485 v486 v487 v488 (wr .i64 (v489 + 1)) v490 v491 v492 v493 v494 v495 v496 v497 v498 v499 x644 x648 v502 v503 nx
                else
                  bif decide (v487 = 3) then
                    bif v493 then
                      none
                    else
                      let x633 : (Option Int) := (mapGet (fun (a b : Int) => a == b) x504.1 v500)
                      let x634 : (List (Int × Int)) := (mapEnt (fun (a b : Int) => a == b) x504.1 0 v500)
                      bif v493 then
                        none
                      else
                        (getI x634 (mapIdx (fun (a b : Int) => a == b) x504.1 v500 : Int)).bind fun x635 =>
                        let x636 : (List (Int × Int)) := (x634.set (mapIdx (fun (a b : Int) => a == b) x504.1 v500 : Int).toNat (x635.1, x504.2))
                        bif v495 then
                          none
                        else
                          let x637 : (Option Int) := (mapGet (fun (a b : Int) => a == b) x504.2 v502)
                          let x638 : (List (Int × Int)) := (mapEnt (fun (a b : Int) => a == b) x504.2 0 v502)
                          bif v495 then
                            none
                          else
                            (getI x638 (mapIdx (fun (a b : Int) => a == b) x504.2 v502 : Int)).bind fun x639 =>
                            let x640 : (List (Int × Int)) := (x638.set (mapIdx (fun (a b : Int) => a == b) x504.2 v502 : Int).toNat (x639.1, x504.1))
                            f15a_l7 k j v485 v486 v487 v488 (wr .i64 (v489 + 1)) v490 v491 v492 v493 v494 v495 v496 v497 v498 v499 x636 v501 x640 v503 nx
                  else
                    bif decide (v487 = 4) then
                      bif v493 then
                        none
                      else
                        let x625 : (Option Int) := (mapGet (fun (a b : Int) => a == b) x504.1 v500)
                        let x626 : (List (Int × Int)) := (mapEnt (fun (a b : Int) => a == b) x504.1 0 v500)
                        bif v493 then
                          none
                        else
                          (getI x626 (mapIdx (fun (a b : Int) => a == b) x504.1 v500 : Int)).bind fun x627 =>
                          let x628 : (List (Int × Int)) := (x626.set (mapIdx (fun (a b : Int) => a == b) x504.1 v500 : Int).toNat (x627.1, x504.2))
                          bif v496 then
                            none
                          else
                            let x629 : (Option Int) := (mapGet (fun (a b : Int) => a == b) x504.2 v503)
                            let x630 : (List (Int × Int)) := (mapEnt (fun (a b : Int) => a == b) x504.2 0 v503)
                            bif v496 then
                              none
                            else
                              (getI x630 (mapIdx (fun (a b : Int) => a == b) x504.2 v503 : Int)).bind fun x631 =>
                              let x632 : (List (Int × Int)) := (x630.set (mapIdx (fun (a b : Int) => a == b) x504.2 v503 : Int).toNat (x631.1, x504.1))
                              f15a_l7 k j v485 v486 v487 v488 (wr .i64 (v489 + 1)) v490 v491 v492 v493 v494 v495 v496 v497 v498 v499 x628 v501 v502 x632 nx
                    else
                      none
          else
            bif decide (v487 = 2) then
              bif decide (v487 = 0) then
                bif v494 then
                  none
                else
                  let x617 : (Option Int) := (mapGet (fun (a b : Int) => a == b) x504.1 v501)
                  let x618 : (List (Int × Int)) := (mapEnt (fun (a b : Int) => a == b) x504.1 0 v501)
                  bif v494 then
                    none
                  else
                    (getI x618 (mapIdx (fun (a b : Int) => a == b) x504.1 v501 : Int)).bind fun x619 =>
                    let x620 : (List (Int × Int)) := (x618.set (mapIdx (fun (a b : Int) => a == b) x504.1 v501 : Int).toNat (x619.1, x504.2))
                    bif v492 then
                      none
                    else
                      let x621 : (Option Int) := (mapGet (fun (a b : Int) => a == b) x504.2 v499)
                      let x622 : (List (Int × Int)) := (mapEnt (fun (a b : Int) => a == b) x504.2 0 v499)
                      bif v492 then
                        none
                      else
                        (getI x622 (mapIdx (fun (a b : Int) => a == b) x504.2 v499 : Int)).bind fun x623 =>
                        let x624 : (List (Int × Int)) := (x622.set (mapIdx (fun (a b : Int) => a == b) x504.2 v499 : Int).toNat (x623.1, x504.1))
                        f15a_l7 k j v485 v486 v487 v488 (wr .i64 (v489 + 1)) v490 v491 v492 v493 v494 v495 v496 v497 v498 x624 v500 x620 v502 v503 nx
              else
                bif decide (v487 = 1) then
                  bif v494 then
                    none
                  else
                    let x609 : (Option Int) := (mapGet (fun (a b : Int) => a == b) x504.1 v501)
                    let x610 : (List (Int × Int)) := (mapEnt (fun (a b : Int) => a == b) x504.1 0 v501)
                    bif v494 then
                      none
                    else
                      (getI x610 (mapIdx (fun (a b : Int) => a == b) x504.1 v501 : Int)).bind fun x611 =>
                      let x612 : (List (Int × Int)) := (x610.set (mapIdx (fun (a b : Int) => a == b) x504.1 v501 : Int).toNat (x611.1, x504.2))
                      bif v493 then
                        none
                      else
                        let x613 : (Option Int) := (mapGet (fun (a b : Int) => a == b) x504.2 v500)
                        let x614 : (List (Int × Int)) := (mapEnt (fun (a b : Int) => a == b) x504.2 0 v500)
                        bif v493 then
                          none
                        else
                          (getI x614 (mapIdx (fun (a b : Int) => a == b) x504.2 v500 : Int)).bind fun x615 =>
                          let x616 : (List (Int × Int)) := (x614.set (mapIdx (fun (a b : Int) => a == b) x504.2 v500 : Int).toNat (x615.1, x504.1))
                          f15a_l7 k j v485 v486 v487 v488 (wr .i64 (v489 + 1)) v490 v491 v492 v493 v494 v495 v496 v497 v498 v499 x616 x612 v502 v503 nx
                else
                  bif decide (v487 = 2) then
                    bif v494 then
                      none
                    else
                      let x601 : (Option Int) := (mapGet (fun (a b : Int) => a == b) x504.1 v501)
                      let x602 : (List (Int × Int)) := (mapEnt (fun (a b : Int) => a == b) x504.1 0 v501)
                      bif v494 then
                        none
                      else
                        (getI x602 (mapIdx (fun (a b : Int) => a == b) x504.1 v501 : Int)).bind fun x603 =>
                        let x604 : (List (Int × Int)) := (x602.set (mapIdx (fun (a b : Int) => a == b) x504.1 v501 : Int).toNat (x603.1, x504.2))
                        bif v494 then
                          none
                        else
                          let x605 : (Option Int) := (mapGet (fun (a b : Int) => a == b) x504.2 x604)
                          let x606 : (List (Int × Int)) := (mapEnt (fun (a b : Int) => a == b) x504.2 0 x604)
                          bif v494 then
                            none
                          else
                            (getI x606 (mapIdx (fun (a b : Int) => a == b) x504.2 x604 : Int)).bind fun x607 =>
                            let x608 : (List (Int × Int)) := (x606.set (mapIdx (fun (a b : Int) => a == b) x504.2 x604 : Int).toNat (x607.1, x504.1))
                            f15a_l7 k j v485 v486 v487 v488 (wr .i64 (v489 + 1)) v490 v491 v492 v493 v494 v495 v496 v497 v498 v499 v500 x608 v502 v503 nx
                  else
                    bif decide (v487 = 3) then
                      bif v494 then
                        none
                      else
                        let x593 : (Option Int) := (mapGet (fun (a b : Int) => a == b) x504.1 v501)
                        let x594 : (List (Int × Int)) := (mapEnt (fun (a b : Int) => a == b) x504.1 0 v501)
                        bif v494 then
                          none
                        else
                          (getI x594 (mapIdx (fun (a b : Int) => a == b) x504.1 v501 : Int)).bind fun x595 =>
                          let x596 : (List (Int × Int)) := (x594.set (mapIdx (fun (a b : Int) => a == b) x504.1 v501 : Int).toNat (x595.1, x504.2))
                          bif v495 then
                            none
                          else
                            let x597 : (Option Int) := (mapGet (fun (a b : Int) => a == b) x504.2 v502)
                            let x598 : (List (Int × Int)) := (mapEnt (fun (a b : Int) => a == b) x504.2 0 v502)
                            bif v495 then
                              none
                            else
                              (getI x598 (mapIdx (fun (a b : Int) => a == b) x504.2 v502 : Int)).bind fun x599 =>
                              let x600 : (List (Int × Int)) := (x598.set (mapIdx (fun (a b : Int) => a == b) x504.2 v502 : Int).toNat (x599.1, x504.1))
                              f15a_l7 k j v485 v486 v487 v488 (wr .i64 (v489 + 1)) v490 v491 v492 v493 v494 v495 v496 v497 v498 v499 v500 x596 x600 v503 nx
                    else
                      bif decide (v487 = 4) then
                        bif v494 then
                          none
                        else
                          let x585 : (Option Int) := (mapGet (fun (a b : Int) => a == b) x504.1 v501)
                          let x586 : (List (Int × Int)) := (mapEnt (fun (a b : Int) => a == b) x504.1 0 v501)
                          bif v494 then
                            none
                          else
                            (getI x586 (mapIdx (fun (a b : Int) => a == b) x504.1 v501 : Int)).bind fun x587 =>
                            let x588 : (List (Int × Int)) := (x586.set (mapIdx (fun (a b : Int) => a == b) x504.1 v501 : Int).toNat (x587.1, x504.2))
                            bif v496 then
                              none
                            else
                              let x589 : (Option Int) := (mapGet (fun (a b : Int) => a == b) x504.2 v503)
                              let x590 : (List (Int × Int)) := (mapEnt (fun (a b : Int) => a == b) x504.2 0 v503)
                              bif v496 then
                                none
                              else
                                (getI x590 (mapIdx (fun (a b : Int) => a == b) x504.2 v503 : Int)).bind fun x591 =>
                                let x592 : (List (Int × Int)) := (x590.set (mapIdx (fun (a b : Int) => a == b) x504.2 v503 : Int).toNat (x591.1, x504.1))
                                f15a_l7 k j v485 v486 v487 v488 (wr .i64 (v489 + 1)) v490 v491 v492 v493 v494 v495 v496 v497 v498 v499 v500 x588 v502 x592 nx
                      else
                        none
            else
              bif decide (v487 = 3) then
                bif decide (v487 = 0) then
                  bif v495 then
                    none
                  else
                    let x577 : (Option Int) := (mapGet (fun (a b : Int) => a == b) x504.1 v502)
                    let x578 : (List (Int × Int)) := (mapEnt (fun (a b : Int) => a == b) x504.1 0 v502)
                    bif v495 then
                      none
                    else
                      (getI x578 (mapIdx (fun (a b : Int) => a == b) x504.1 v502 : Int)).bind fun x579 =>
                      let x580 : (List (Int × Int)) := (x578.set (mapIdx (fun (a b : Int) => a == b) x504.1 v502 : Int).toNat (x579.1, x504.2))
                      bif v492 then
                        none
                      else
                        let x581 : (Option Int) := (mapGet (fun (a b : Int) => a == b) x504.2 v499)
                        let x582 : (List (Int × Int)) := (mapEnt (fun (a b : Int) => a == b) x504.2 0 v499)
                        bif v492 then
                          none
                        else
                          (getI x582 (mapIdx (fun (a b : Int) => a == b) x504.2 v499 : Int)).bind fun x583 =>
                          let x584 : (List (Int × Int)) := (x582.set (mapIdx (fun (a b : Int) => a == b) x504.2 v499 : Int).toNat (x583.1, x504.1))
                          f15a_l7 k j v485 v486 v487 v488 (wr .i64 (v489 + 1)) v490 v491 v492 v493 v494 v495 v496 v497 v498 x584 v500 v501 x580 v503 nx
                else
                  bif decide (v487 = 1) then
                    bif v495 then
                      none
                    else
                      let x569 : (Option Int) := (mapGet (fun (a b : Int) => a == b) x504.1 v502)
                      let x570 : (List (Int × Int)) := (mapEnt (fun (a b : Int) => a == b) x504.1 0 v502)
                      bif v495 then
                        none
                      else
                        (getI x570 (mapIdx (fun (a b : Int) => a == b) x504.1 v502 : Int)).bind fun x571 =>
                        let x572 : (List (Int × Int)) := (x570.set (mapIdx (fun (a b : Int) => a == b) x504.1 v502 : Int).toNat (x571.1, x504.2))
                        bif v493 then
                          none
                        else
                          let x573 : (Option Int) := (mapGet (fun (a b : Int) => a == b) x504.2 v500)
                          let x574 : (List (Int × Int)) := (mapEnt (fun (a b : Int) => a == b) x504.2 0 v500)
                          bif v493 then
                            none
                          else
                            (getI x574 (mapIdx (fun (a b : Int) => a == b) x504.2 v500 : Int)).bind fun x575 =>
                            let x576 : (List (Int × Int)) := (x574.set (mapIdx (fun (a b : Int) => a == b) x504.2 v500 : Int).toNat (x575.1, x504.1))
                            f15a_l7 k j v485 v486 v487 v488 (wr .i64 (v489 + 1)) v490 v491 v492 v493 v494 v495 v496 v497 v498 v499 x576 v501 x572 v503 nx
                  else
                    bif decide (v487 = 2) then
                      bif v495 then
                        none
                      else
                        let x561 : (Option Int) := (mapGet (fun (a b : Int) => a == b) x504.1 v502)
                        let x562 : (List (Int × Int)) := (mapEnt (fun (a b : Int) => a == b) x504.1 0 v502)
                        bif v495 then
                          none
                        else
                          (getI x562 (mapIdx (fun (a b : Int) => a == b) x504.1 v502 : Int)).bind fun x563 =>
                          let x564 : (List (Int × Int)) := (x562.set (mapIdx (fun (a b : Int) => a == b) x504.1 v502 : Int).toNat (x563.1, x504.2))
                          bif v494 then
                            none
                          else
                            let x565 : (Option Int) := (mapGet (fun (a b : Int) => a == b) x504.2 v501)
                            let x566 : (List (Int × Int)) := (mapEnt (fun (a b : Int) => a == b) x504.2 0 v501)
                            bif v494 then
                              none
                            else
                              (getI x566 (mapIdx (fun (a b : Int) => a == b) x504.2 v501 : Int)).bind fun x567 =>
                              let x568 : (List (Int × Int)) := (x566.set (mapIdx (fun (a b : Int) => a == b) x504.2 v501 : Int).toNat (x567.1, x504.1))
                              f15a_l7 k j v485 v486 v487 v488 (wr .i64 (v489 + 1)) v490 v491 v492 v493 v494 v495 v496 v497 v498 v499 v500 x568 x564 v503 nx
                    else
                      bif decide (v487 = 3) then
                        bif v495 then
                          none
                        else
                          let x553 : (Option Int) := (mapGet (fun (a b : Int) => a == b) x504.1 v502)
                          let x554 : (List (Int × Int)) := (mapEnt (fun (a b : Int) => a == b) x504.1 0 v502)
                          bif v495 then
                            none
                          else
                            (getI x554 (mapIdx (fun (a b : Int) => a == b) x504.1 v502 : Int)).bind fun x555 =>
                            let x556 : (List (Int × Int)) := (x554.set (mapIdx (fun (a b : Int) => a == b) x504.1 v502 : Int).toNat (x555.1, x504.2))
                            bif v495 then
                              none
                            else
                              let x557 : (Option Int) := (mapGet (fun (a b : Int) => a == b) x504.2 x556)
                              let x558 : (List (Int × Int)) := (mapEnt (fun (a b : Int) => a == b) x504.2 0 x556)
                              bif v495 then
                                none
                              else
                                (getI x558 (mapIdx (fun (a b : Int) => a == b) x504.2 x556 : Int)).bind fun x559 =>
                                let x560 : (List (Int × Int)) := (x558.set (mapIdx (fun (a b : Int) => a == b) x504.2 x556 : Int).toNat (x559.1, x504.1))
                                f15a_l7 k j v485 v486 v487 v488 (wr .i64 (v489 + 1)) v490 v491 v492 v493 v494 v495 v496 v497 v498 v499 v500 v501 x560 v503 nx
                      else
                        bif decide (v487 = 4) then
                          bif v495 then
                            none
                          else
                            let x545 : (Option Int) := (mapGet (fun (a b : Int) => a == b) x504.1 v502)
                            let x546 : (List (Int × Int)) := (mapEnt (fun (a b : Int) => a == b) x504.1 0 v502)
                            bif v495 then
                              none
                            else
                              (getI x546 (mapIdx (fun (a b : Int) => a == b) x504.1 v502 : Int)).bind fun x547 =>
                              let x548 : (List (Int × Int)) := (x546.set (mapIdx (fun (a b : Int) => a == b) x504.1 v502 : Int).toNat (x547.1, x504.2))
                              bif v496 then
                                none
                              else
                                let x549 : (Option Int) := (mapGet (fun (a b : Int) => a == b) x504.2 v503)
                                let x550 : (List (Int × Int)) := (mapEnt (fun (a b : Int) => a == b) x504.2 0 v503)
                                bif v496 then
                                  none
                                else
                                  (getI x550 (mapIdx (fun (a b : Int) => a == b) x504.2 v503 : Int)).bind fun x551 =>
                                  let x552 : (List (Int × Int)) := (x550.set (mapIdx (fun (a b : Int) => a == b) x504.2 v503 : Int).toNat (x551.1, x504.1))
                                  f15a_l7 k j v485 v486 v487 v488 (wr .i64 (v489 + 1)) v490 v491 v492 v493 v494 v495 v496 v497 v498 v499 v500 v501 x548 x552 nx
                        else
                          none
              else
                bif decide (v487 = 4) then
                  bif decide (v487 = 0) then
                    bif v496 then
                      none
                    else
                      let x537 : (Option Int) := (mapGet (fun (a b : Int) => a == b) x504.1 v503)
                      let x538 : (List (Int × Int)) := (mapEnt (fun (a b : Int) => a == b) x504.1 0 v503)
                      bif v496 then
                        none
                      else
                        (getI x538 (mapIdx (fun (a b : Int) => a == b) x504.1 v503 : Int)).bind fun x539 =>
                        let x540 : (List (Int × Int)) := (x538.set (mapIdx (fun (a b : Int) => a == b) x504.1 v503 : Int).toNat (x539.1, x504.2))
                        bif v492 then
                          none
                        else
                          let x541 : (Option Int) := (mapGet (fun (a b : Int) => a == b) x504.2 v499)
                          let x542 : (List (Int × Int)) := (mapEnt (fun (a b : Int) => a == b) x504.2 0 v499)
                          bif v492 then
                            none
                          else
                            (getI x542 (mapIdx (fun (a b : Int) => a == b) x504.2 v499 : Int)).bind fun x543 =>
                            let x544 : (List (Int × Int)) := (x542.set (mapIdx (fun (a b : Int) => a == b) x504.2 v499 : Int).toNat (x543.1, x504.1))
                            f15a_l7 k j v485 v486 v487 v488 (wr .i64 (v489 + 1)) v490 v491 v492 v493 v494 v495 v496 v497 v498 x544 v500 v501 v502 x540 nx
                  else
                    bif decide (v487 = 1) then
                      bif v496 then
                        none
                      else
                        let x529 : (Option Int) := (mapGet (fun (a b : Int) => a == b) x504.1 v503)
                        let x530 : (List (Int × Int)) := (mapEnt (fun (a b : Int) => a == b) x504.1 0 v503)
                        bif v496 then
                          none
                        else
                          (getI x530 (mapIdx (fun (a b : Int) => a == b) x504.1 v503 : Int)).bind fun x531 =>
                          let x532 : (List (Int × Int)) := (x530.set (mapIdx (fun (a b : Int) => a == b) x504.1 v503 : Int).toNat (x531.1, x504.2))
                          bif v493 then
                            none
                          else
                            let x533 : (Option Int) := (mapGet (fun (a b : Int) => a == b) x504.2 v500)
                            let x534 : (List (Int × Int)) := (mapEnt (fun (a b : Int) => a == b) x504.2 0 v500)
                            bif v493 then
                              none
                            else
                              (getI x534 (mapIdx (fun (a b : Int) => a == b) x504.2 v500 : Int)).bind fun x535 =>
                              let x536 : (List (Int × Int)) := (x534.set (mapIdx (fun (a b : Int) => a == b) x504.2 v500 : Int).toNat (x535.1, x504.1))
                              f15a_l7 k j v485 v486 v487 v488 (wr .i64 (v489 + 1)) v490 v491 v492 v493 v494 v495 v496 v497 v498 v499 x536 v501 v502 x532 nx
                    else
                      bif decide (v487 = 2) then
                        bif v496 then
                          none
                        else
                          let x521 : (Option Int) := (mapGet (fun (a b : Int) => a == b) x504.1 v503)
                          let x522 : (List (Int × Int)) := (mapEnt (fun (a b : Int) => a == b) x504.1 0 v503)
                          bif v496 then
                            none
                          else
                            (getI x522 (mapIdx (fun (a b : Int) => a == b) x504.1 v503 : Int)).bind fun x523 =>
                            let x524 : (List (Int × Int)) := (x522.set (mapIdx (fun (a b : Int) => a == b) x504.1 v503 : Int).toNat (x523.1, x504.2))
                            bif v494 then
                              none
                            else
                              let x525 : (Option Int) := (mapGet (fun (a b : Int) => a == b) x504.2 v501)
                              let x526 : (List (Int × Int)) := (mapEnt (fun (a b : Int) => a == b) x504.2 0 v501)
                              bif v494 then
                                none
                              else
                                (getI x526 (mapIdx (fun (a b : Int) => a == b) x504.2 v501 : Int)).bind fun x527 =>
                                let x528 : (List (Int × Int)) := (x526.set (mapIdx (fun (a b : Int) => a == b) x504.2 v501 : Int).toNat (x527.1, x504.1))
                                f15a_l7 k j v485 v486 v487 v488 (wr .i64 (v489 + 1)) v490 v491 v492 v493 v494 v495 v496 v497 v498 v499 v500 x528 v502 x524 nx
                      else
                        bif decide (v487 = 3) then
                          bif v496 then
                            none
                          else
                            let x513 : (Option Int) := (mapGet (fun (a b : Int) => a == b) x504.1 v503)
                            let x514 : (List (Int × Int)) := (mapEnt (fun (a b : Int) => a == b) x504.1 0 v503)
                            bif v496 then
                              none
                            else
                              (getI x514 (mapIdx (fun (a b : Int) => a == b) x504.1 v503 : Int)).bind fun x515 =>
                              let x516 : (List (Int × Int)) := (x514.set (mapIdx (fun (a b : Int) => a == b) x504.1 v503 : Int).toNat (x515.1, x504.2))
                              bif v495 then
                                none
                              else
                                let x517 : (Option Int) := (mapGet (fun (a b : Int) => a == b) x504.2 v502)
                                let x518 : (List (Int × Int)) := (mapEnt (fun (a b : Int) => a == b) x504.2 0 v502)
                                bif v495 then
                                  none
                                else
                                  (getI x518 (mapIdx (fun (a b : Int) => a == b) x504.2 v502 : Int)).bind fun x519 =>
                                  let x520 : (List (Int × Int)) := (x518.set (mapIdx (fun (a b : Int) => a == b) x504.2 v502 : Int).toNat (x519.1, x504.1))
                                  f15a_l7 k j v485 v486 v487 v488 (wr .i64 (v489 + 1)) v490 v491 v492 v493 v494 v495 v496 v497 v498 v499 v500 v501 x520 x516 nx
                        else
                          bif decide (v487 = 4) then
                            bif v496 then
                              none
                            else
                              let x505 : (Option Int) := (mapGet (fun (a b : Int) => a == b) x504.1 v503)
                              let x506 : (List (Int × Int)) := (mapEnt (fun (a b : Int) => a == b) x504.1 0 v503)
                              bif v496 then
                                none
                              else
                                (getI x506 (mapIdx (fun (a b : Int) => a == b) x504.1 v503 : Int)).bind fun x507 =>
                                let x508 : (List (Int × Int)) := (x506.set (mapIdx (fun (a b : Int) => a == b) x504.1 v503 : Int).toNat (x507.1, x504.2))
                                bif v496 then
                                  none
                                else
                                  let x509 : (Option Int) := (mapGet (fun (a b : Int) => a == b) x504.2 x508)
                                  let x510 : (List (Int × Int)) := (mapEnt (fun (a b : Int) => a == b) x504.2 0 x508)
                                  bif v496 then
                                    none
                                  else
                                    (getI x510 (mapIdx (fun (a b : Int) => a == b) x504.2 x508 : Int)).bind fun x511 =>
                                    let x512 : (List (Int × Int)) := (x510.set (mapIdx (fun (a b : Int) => a == b) x504.2 x508 : Int).toNat (x511.1, x504.1))
                                    f15a_l7 k j v485 v486 v487 v488 (wr .i64 (v489 + 1)) v490 v491 v492 v493 v494 v495 v496 v497 v498 v499 v500 v501 v502 x512 nx
                          else
                            none
                else
                  none
      else
        none
    else
      nx.1 ((v485, v486, (), v487, ()), (((), ()), v490, (v491, v492, v493, v494, v495, v496, (), (), (), (), (), (((), ()), v497), ()), v499, v500, v501, v502, v503, ()))
def cf15a_l7 (k : Nat) : Cut := { sp := { temps := [(0, .c (.int .i64)), (1, .c (.int .i64)), (7, .c (.box 5000000)), (8, .c (.int .i64)), (30, .c (.row 5000001)), (31, .c (.int .i64)), (32, .c (.int .i64))], blocks := [(3000000, .box 25 [(.lit (.row 3000001))]), (3000001, .own 38 (.s 2 (.d (.int .i64)))), (5000000, .box 49 [(.int .i64), (.mapr 5000002), (.mapr 5000003), (.mapr 5000004), (.mapr 5000005), (.mapr 5000006), (.lit .nils), (.lit .nils), (.lit .nils), (.lit .nils), (.lit .nils), (.cap (.cap (.lit (.fn 20)) (.lit (.ptr 3000000 0 0 0))) (.dp (.int .i64)))]), (5000001, .row 53 (.pair (.int .i64) (.int .i64))), (5000002, .mp 45 false false (.int .i64) (.int .i64)), (5000003, .mp 45 false false (.int .i64) (.int .i64)), (5000004, .mp 45 false false (.int .i64) (.int .i64)), (5000005, .mp 45 false false (.int .i64) (.int .i64)), (5000006, .mp 45 false false (.int .i64) (.int .i64))], ren := [(3000000, some 3000000), (3000001, some 3000001)] }, outs := [(.exit 2, { temps := [(0, .c (.int .i64)), (1, .c (.int .i64)), (7, .c (.box 5000000)), (8, .c (.int .i64))], blocks := [(3000000, .box 25 [(.lit (.row 3000001))]), (3000001, .own 38 (.s 2 (.d (.int .i64)))), (5000000, .box 49 [(.int .i64), (.mapr 5000001), (.mapr 5000002), (.mapr 5000003), (.mapr 5000004), (.mapr 5000005), (.lit .nils), (.lit .nils), (.lit .nils), (.lit .nils), (.lit .nils), (.cap (.cap (.lit (.fn 20)) (.lit (.ptr 3000000 0 0 0))) (.dp (.int .i64)))]), (5000001, .mp 45 false false (.int .i64) (.int .i64)), (5000002, .mp 45 false false (.int .i64) (.int .i64)), (5000003, .mp 45 false false (.int .i64) (.int .i64)), (5000004, .mp 45 false false (.int .i64) (.int .i64)), (5000005, .mp 45 false false (.int .i64) (.int .i64))], ren := [(3000000, some 3000000), (3000001, some 3000001)] })], F := fun ρ j v nx => f15a_l7 k j v.1.1 v.1.2.1 v.1.2.2.2.1 v.1.2.2.2.2.2.1 v.1.2.2.2.2.2.2.1 v.2.2.1 v.2.2.2.1.1 v.2.2.2.1.2.1 v.2.2.2.1.2.2.1 v.2.2.2.1.2.2.2.1 v.2.2.2.1.2.2.2.2.1 v.2.2.2.1.2.2.2.2.2.1 v.2.2.2.1.2.2.2.2.2.2.2.2.2.2.2.1.2 v.2.2.2.2.1 v.2.2.2.2.2.1 v.2.2.2.2.2.2.1 v.2.2.2.2.2.2.2.1 v.2.2.2.2.2.2.2.2.1 v.2.2.2.2.2.2.2.2.2.1 nx }
def f15a_l3 {ρ : Type} (k : Nat) : Nat → Int → Int → Int → (List (List Int)) → Int → Bool → Bool → Bool → Bool → Bool → Int → (List (Int × Int)) → (List (Int × Int)) → (List (Int × Int)) → (List (Int × Int)) → (List (Int × Int)) → ((((Unit × Unit) × ((Unit × Unit) × (List (List Int)) × (Int × Bool × Bool × Bool × Bool × Bool × Unit × Unit × Unit × Unit × Unit × ((Unit × Unit) × Int) × Unit) × (List (Int × Int)) × (List (Int × Int)) × (List (Int × Int)) × (List (Int × Int)) × (List (Int × Int)) × Unit)) → Option ρ) × Unit) → Option ρ
  | 0, _, _, _, _, _, _, _, _, _, _, _, _, _, _, _, _, _ => none
  | j + 1, v705, v706, v707, v708, v709, v710, v711, v712, v713, v714, v715, v716, v717, v718, v719, v720, nx =>
    bif (decide (v707 ≤ 4)) then
      bif decide (v707 = 0) then
        (f28 k v705 v706 v707).bind fun x729 =>
        f15a_l7 k k v705 v706 v707 (x729.2.1.length : Int) 0 v708 v709 false v711 v712 v713 v714 v715 x729.2.1 ([] : List (Int × Int)) v717 v718 v719 v720
          (fun x730 : ((Int × Int × Unit × Int × Unit) × ((Unit × Unit) × (List (List Int)) × (Int × Bool × Bool × Bool × Bool × Bool × Unit × Unit × Unit × Unit × Unit × ((Unit × Unit) × Int) × Unit) × (List (Int × Int)) × (List (Int × Int)) × (List (Int × Int)) × (List (Int × Int)) × (List (Int × Int)) × Unit)) =>
            f15a_l3 k j x730.1.1 x730.1.2.1 (wr .i64 (x730.1.2.2.2.1 + 1)) x730.2.2.1 x730.2.2.2.1.1 x730.2.2.2.1.2.1 x730.2.2.2.1.2.2.1 x730.2.2.2.1.2.2.2.1 x730.2.2.2.1.2.2.2.2.1 x730.2.2.2.1.2.2.2.2.2.1 x730.2.2.2.1.2.2.2.2.2.2.2.2.2.2.2.1.2 x730.2.2.2.2.1 x730.2.2.2.2.2.1 x730.2.2.2.2.2.2.1 x730.2.2.2.2.2.2.2.1 x730.2.2.2.2.2.2.2.2.1 nx,
          ())
      else
        bif decide (v707 = 1) then
          (f28 k v705 v706 v707).bind fun x727 =>
          f15a_l7 k k v705 v706 v707 (x727.2.1.length : Int) 0 v708 v709 v710 false v712 v713 v714 v715 x727.2.1 v716 ([] : List (Int × Int)) v718 v719 v720
            (fun x728 : ((Int × Int × Unit × Int × Unit) × ((Unit × Unit) × (List (List Int)) × (Int × Bool × Bool × Bool × Bool × Bool × Unit × Unit × Unit × Unit × Unit × ((Unit × Unit) × Int) × Unit) × (List (Int × Int)) × (List (Int × Int)) × (List (Int × Int)) × (List (Int × Int)) × (List (Int × Int)) × Unit)) =>
              f15a_l3 k j x728.1.1 x728.1.2.1 (wr .i64 (x728.1.2.2.2.1 + 1)) x728.2.2.1 x728.2.2.2.1.1 x728.2.2.2.1.2.1 x728.2.2.2.1.2.2.1 x728.2.2.2.1.2.2.2.1 x728.2.2.2.1.2.2.2.2.1 x728.2.2.2.1.2.2.2.2.2.1 x728.2.2.2.1.2.2.2.2.2.2.2.2.2.2.2.1.2 x728.2.2.2.2.1 x728.2.2.2.2.2.1 x728.2.2.2.2.2.2.1 x728.2.2.2.2.2.2.2.1 x728.2.2.2.2.2.2.2.2.1 nx,
            ())
        else
          bif decide (v707 = 2) then
            (f28 k v705 v706 v707).bind fun x725 =>
            f15a_l7 k k v705 v706 v707 (x725.2.1.length : Int) 0 v708 v709 v710 v711 false v713 v714 v715 x725.2.1 v716 v717 ([] : List (Int × Int)) v719 v720
              (fun x726 : ((Int × Int × Unit × Int × Unit) × ((Unit × Unit) × (List (List Int)) × (Int × Bool × Bool × Bool × Bool × Bool × Unit × Unit × Unit × Unit × Unit × ((Unit × Unit) × Int) × Unit) × (List (Int × Int)) × (List (Int × Int)) × (List (Int × Int)) × (List (Int × Int)) × (List (Int × Int)) × Unit)) =>
                f15a_l3 k j x726.1.1 x726.1.2.1 (wr .i64 (x726.1.2.2.2.1 + 1)) x726.2.2.1 x726.2.2.2.1.1 x726.2.2.2.1.2.1 x726.2.2.2.1.2.2.1 x726.2.2.2.1.2.2.2.1 x726.2.2.2.1.2.2.2.2.1 x726.2.2.2.1.2.2.2.2.2.1 x726.2.2.2.1.2.2.2.2.2.2.2.2.2.2.2.1.2 x726.2.2.2.2.1 x726.2.2.2.2.2.1 x726.2.2.2.2.2.2.1 x726.2.2.2.2.2.2.2.1 x726.2.2.2.2.2.2.2.2.1 nx,
              ())
          else
            bif decide (v707 = 3) then
              (f28 k v705 v706 v707).bind fun x723 =>
              f15a_l7 k k v705 v706 v707 (x723.2.1.length : Int) 0 v708 v709 v710 v711 v712 false v714 v715 x723.2.1 v716 v717 v718 ([] : List (Int × Int)) v720
                (fun x724 : ((Int × Int × Unit × Int × Unit) × ((Unit × Unit) × (List (List Int)) × (Int × Bool × Bool × Bool × Bool × Bool × Unit × Unit × Unit × Unit × Unit × ((Unit × Unit) × Int) × Unit) × (List (Int × Int)) × (List (Int × Int)) × (List (Int × Int)) × (List (Int × Int)) × (List (Int × Int)) × Unit)) =>
                  f15a_l3 k j x724.1.1 x724.1.2.1 (wr .i64 (x724.1.2.2.2.1 + 1)) x724.2.2.1 x724.2.2.2.1.1 x724.2.2.2.1.2.1 x724.2.2.2.1.2.2.1 x724.2.2.2.1.2.2.2.1 x724.2.2.2.1.2.2.2.2.1 x724.2.2.2.1.2.2.2.2.2.1 x724.2.2.2.1.2.2.2.2.2.2.2.2.2.2.2.1.2 x724.2.2.2.2.1 x724.2.2.2.2.2.1 x724.2.2.2.2.2.2.1 x724.2.2.2.2.2.2.2.1 x724.2.2.2.2.2.2.2.2.1 nx,
                ())
            else
              bif decide (v707 = 4) then
                (f28 k v705 v706 v707).bind fun x721 =>
                f15a_l7 k k v705 v706 v707 (x721.2.1.length : Int) 0 v708 v709 v710 v711 v712 v713 false v715 x721.2.1 v716 v717 v718 v719 ([] : List (Int × Int))
                  (fun x722 : ((Int × Int × Unit × Int × Unit) × ((Unit × Unit) × (List (List Int)) × (Int × Bool × Bool × Bool × Bool × Bool × Unit × Unit × Unit × Unit × Unit × ((Unit × Unit) × Int) × Unit) × (List (Int × Int)) × (List (Int × Int)) × (List (Int × Int)) × (List (Int × Int)) × (List (Int × Int)) × Unit)) =>
                    f15a_l3 k j x722.1.1 x722.1.2.1 (wr .i64 (x722.1.2.2.2.1 + 1)) x722.2.2.1 x722.2.2.2.1.1 x722.2.2.2.1.2.1 x722.2.2.2.1.2.2.1 x722.2.2.2.1.2.2.2.1 x722.2.2.2.1.2.2.2.2.1 x722.2.2.2.1.2.2.2.2.2.1 x722.2.2.2.1.2.2.2.2.2.2.2.2.2.2.2.1.2 x722.2.2.2.2.1 x722.2.2.2.2.2.1 x722.2.2.2.2.2.2.1 x722.2.2.2.2.2.2.2.1 x722.2.2.2.2.2.2.2.2.1 nx,
                  ())
              else
                none
    else
      nx.1 (((), ()), (((), ()), v708, (v709, v710, v711, v712, v713, v714, (), (), (), (), (), (((), ()), v715), ()), v716, v717, v718, v719, v720, ()))
def cf15a_l3 (k : Nat) : Cut := { sp := { temps := [(0, .c (.int .i64)), (1, .c (.int .i64)), (7, .c (.box 5000000)), (8, .c (.int .i64))], blocks := [(3000000, .box 25 [(.lit (.row 3000001))]), (3000001, .own 38 (.s 2 (.d (.int .i64)))), (5000000, .box 49 [(.int .i64), (.mapr 5000001), (.mapr 5000002), (.mapr 5000003), (.mapr 5000004), (.mapr 5000005), (.lit .nils), (.lit .nils), (.lit .nils), (.lit .nils), (.lit .nils), (.cap (.cap (.lit (.fn 20)) (.lit (.ptr 3000000 0 0 0))) (.dp (.int .i64)))]), (5000001, .mp 45 false false (.int .i64) (.int .i64)), (5000002, .mp 45 false false (.int .i64) (.int .i64)), (5000003, .mp 45 false false (.int .i64) (.int .i64)), (5000004, .mp 45 false false (.int .i64) (.int .i64)), (5000005, .mp 45 false false (.int .i64) (.int .i64))], ren := [(3000000, some 3000000), (3000001, some 3000001)] }, outs := [(.exit 0, { temps := [(7, .c (.box 5000000))], blocks := [(3000000, .box 25 [(.lit (.row 3000001))]), (3000001, .own 38 (.s 2 (.d (.int .i64)))), (5000000, .box 49 [(.int .i64), (.mapr 5000001), (.mapr 5000002), (.mapr 5000003), (.mapr 5000004), (.mapr 5000005), (.lit .nils), (.lit .nils), (.lit .nils), (.lit .nils), (.lit .nils), (.cap (.cap (.lit (.fn 20)) (.lit (.ptr 3000000 0 0 0))) (.dp (.int .i64)))]), (5000001, .mp 45 false false (.int .i64) (.int .i64)), (5000002, .mp 45 false false (.int .i64) (.int .i64)), (5000003, .mp 45 false false (.int .i64) (.int .i64)), (5000004, .mp 45 false false (.int .i64) (.int .i64)), (5000005, .mp 45 false false (.int .i64) (.int .i64))], ren := [(3000000, some 3000000), (3000001, some 3000001)] })], F := fun ρ j v nx => f15a_l3 k j v.1.1 v.1.2.1 v.1.2.2.2.1 v.2.2.1 v.2.2.2.1.1 v.2.2.2.1.2.1 v.2.2.2.1.2.2.1 v.2.2.2.1.2.2.2.1 v.2.2.2.1.2.2.2.2.1 v.2.2.2.1.2.2.2.2.2.1 v.2.2.2.1.2.2.2.2.2.2.2.2.2.2.2.1.2 v.2.2.2.2.1 v.2.2.2.2.2.1 v.2.2.2.2.2.2.1 v.2.2.2.2.2.2.2.1 v.2.2.2.2.2.2.2.2.1 nx }
def f15a (k : Nat) (a1 : Int) (a2 : Int) (a3 : Int) (a4 : (List (List Int))) : Option ((Unit × Unit) × ((Unit × Unit) × (List (List Int)) × (Int × Bool × Bool × Bool × Bool × Bool × Unit × Unit × Unit × Unit × Unit × ((Unit × Unit) × Int) × Unit) × (List (Int × Int)) × (List (Int × Int)) × (List (Int × Int)) × (List (Int × Int)) × (List (Int × Int)) × Unit)) :=
  f15a_l3 k k a1 a2 1 a4 (wr .i64 (a1 * a2)) true true true true true a3 ([] : List (Int × Int)) ([] : List (Int × Int)) ([] : List (Int × Int)) ([] : List (Int × Int)) ([] : List (Int × Int))
    (fun x484 : ((Unit × Unit) × ((Unit × Unit) × (List (List Int)) × (Int × Bool × Bool × Bool × Bool × Bool × Unit × Unit × Unit × Unit × Unit × ((Unit × Unit) × Int) × Unit) × (List (Int × Int)) × (List (Int × Int)) × (List (Int × Int)) × (List (Int × Int)) × (List (Int × Int)) × Unit)) =>
      some (((), ()), (((), ()), x484.2.2.1, (x484.2.2.2.1.1, x484.2.2.2.1.2.1, x484.2.2.2.1.2.2.1, x484.2.2.2.1.2.2.2.1, x484.2.2.2.1.2.2.2.2.1, x484.2.2.2.1.2.2.2.2.2.1, (), (), (), (), (), (((), ()), x484.2.2.2.1.2.2.2.2.2.2.2.2.2.2.2.1.2), ()), x484.2.2.2.2.1, x484.2.2.2.2.2.1, x484.2.2.2.2.2.2.1, x484.2.2.2.2.2.2.2.1, x484.2.2.2.2.2.2.2.2.1, ())),
    ())
def ef15a : Entry := { id := 15, ar := { temps := [(0, .c (.int .i64)), (1, .c (.int .i64)), (2, .c (.cap (.cap (.lit (.fn 20)) (.box 3000000)) (.dp (.int .i64))))], blocks := [(3000000, .box 25 [(.row 3000001)]), (3000001, .own 38 (.s 2 (.d (.int .i64))))], ren := [] }, res := { temps := [(0, .c (.box 4000000))], blocks := [(3000000, .box 25 [(.lit (.row 3000001))]), (3000001, .own 38 (.s 2 (.d (.int .i64)))), (4000000, .box 49 [(.int .i64), (.mapr 4000001), (.mapr 4000002), (.mapr 4000003), (.mapr 4000004), (.mapr 4000005), (.lit .nils), (.lit .nils), (.lit .nils), (.lit .nils), (.lit .nils), (.cap (.cap (.lit (.fn 20)) (.lit (.ptr 3000000 0 0 0))) (.dp (.int .i64)))]), (4000001, .mp 45 false false (.int .i64) (.int .i64)), (4000002, .mp 45 false false (.int .i64) (.int .i64)), (4000003, .mp 45 false false (.int .i64) (.int .i64)), (4000004, .mp 45 false false (.int .i64) (.int .i64)), (4000005, .mp 45 false false (.int .i64) (.int .i64))], ren := [(3000000, some 3000000), (3000001, some 3000001)] }, f := fun k v => f15a k v.1.1 v.1.2.1 v.1.2.2.1.2 v.2.2.1 }
def gf15a (k : Nat) : Full := { tt := tt, n := 62, fns := [ef28], trunc := [], tails := [], touch := [(9, [(20, [5000002, 5000003, 5000004, 5000005, 5000006]), (22, [5000002, 5000003, 5000004, 5000005, 5000006]), (23, [5000002, 5000003, 5000004, 5000005, 5000006]), (25, [5000002, 5000003, 5000004, 5000005, 5000006])])], opens := [], shapes := [], closes := [], k := k, glob := glob, cuts := [(7, (cf15a_l7 k)), (3, (cf15a_l3 k))], joins := [] }
theorem of15a_l7 (k : Nat) : CutOk (gf15a k) (cf15a_l7 k) (theLoop Try.f15 7) := fun ρ v nx => ⟨by kernel_rfl, fun j => by kernel_rfl⟩
theorem of15a_l3 (k : Nat) : CutOk (gf15a k) (cf15a_l3 k) (theLoop Try.f15 3) := fun ρ v nx => ⟨by kernel_rfl, fun j => by kernel_rfl⟩
theorem qf15a (k : Nat) : AllP (bodyL (gf15a k) Try.f15) := by
  have h : (CutOk (gf15a k) (cf15a_l7 k) (theLoop Try.f15 7) ∧ CutOk (gf15a k) (cf15a_l3 k) (theLoop Try.f15 3) ∧ True) = AllP (bodyL (gf15a k) Try.f15) := by kernel_rfl
  exact Eq.mp h (And.intro (of15a_l7 k) (And.intro (of15a_l3 k) (trivial)))
theorem sf15a : Sound Try.prog glob ef15a := sound_of base (fn := Try.f15) Try.func15 (by kernel_rfl) gf15a (fun _ => ⟨rfl, rfl⟩) (fun k j => ⟨sf28.at j, trivial⟩) qf15a (fun k v => by kernel_rfl)

/-! impl.length[[]int64] -/
def f21 (k : Nat) (a1 : (List (List Int))) : Option ((Int × Unit) × Unit) :=
  some (((a1.length : Int), ()), ())
def ef21 : Entry := { id := 21, ar := { temps := [(0, .c (.sl (.sl (.int .i64))))], blocks := [], ren := [] }, res := { temps := [(0, .c (.int .i64))], blocks := [], ren := [] }, f := fun k v => f21 k v.1.1 }
def gf21 (k : Nat) : Full := { tt := tt, n := 5, fns := [], trunc := [], tails := [], touch := [], opens := [], shapes := [], closes := [], k := k, glob := glob, cuts := [], joins := [] }
theorem qf21 (k : Nat) : AllP (bodyL (gf21 k) Try.f21) := by
  have h : True = AllP (bodyL (gf21 k) Try.f21) := by kernel_rfl
  exact Eq.mp h trivial
theorem sf21 : Sound Try.prog glob ef21 := sound_of base (fn := Try.f21) Try.func21 (by kernel_rfl) gf21 (fun _ => ⟨rfl, rfl⟩) (fun k j => trivial) qf21 (fun k v => by kernel_rfl)

/-! impl.StacksOf$1 -/
def f20 (k : Nat) (a1 : Int) (a2 : (List Int)) (a3 : (List (List Int))) : Option ((Bool × Unit) × ((Unit × Unit) × (List (List Int)) × Unit)) :=
  bif decide ((a3.length + [a2].length) * 24 ≤ roomy) then
    (f21 k (a3 ++ [a2])).bind fun x2 =>
    some (((decide (x2.1.1 < a1)), ()), (((), ()), (a3 ++ [a2]), ()))
  else
    none
def ef20 : Entry := { id := 20, ar := { temps := [(0, .c (.row 3000000)), (1, .c (.box 3000001)), (2, .c (.dp (.int .i64)))], blocks := [(3000000, .row 2 (.int .i64)), (3000001, .box 25 [(.row 3000002)]), (3000002, .own 38 (.s 2 (.d (.int .i64))))], ren := [] }, res := { temps := [(0, .c .bool)], blocks := [(3000001, .box 25 [(.row 4000000)]), (4000000, .own 38 (.s 2 (.d (.int .i64))))], ren := [(3000001, some 3000001)] }, f := fun k v => f20 k v.1.2.2.1 v.2.1 v.2.2.2.1 }
def gf20 (k : Nat) : Full := { tt := tt, n := 13, fns := [ef21], trunc := [], tails := [], touch := [], opens := [], shapes := [(7, (.s 2 (.d (.int .i64)))), (8, (.s 2 (.d (.int .i64))))], closes := [], k := k, glob := glob, cuts := [], joins := [] }
theorem qf20 (k : Nat) : AllP (bodyL (gf20 k) Try.f20) := by
  have h : True = AllP (bodyL (gf20 k) Try.f20) := by kernel_rfl
  exact Eq.mp h trivial
theorem sf20 : Sound Try.prog glob ef20 := sound_of base (fn := Try.f20) Try.func20 (by kernel_rfl) gf20 (fun _ => ⟨rfl, rfl⟩) (fun k j => ⟨sf21.at j, trivial⟩) qf20 (fun k v => by kernel_rfl)

end Go.Proofs.Ytplcjfnobdlkeaa.R
