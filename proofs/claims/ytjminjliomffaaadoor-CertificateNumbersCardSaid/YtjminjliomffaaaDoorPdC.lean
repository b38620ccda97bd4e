import Derived.Test.YtjminjliomffaaaDoorPdA
/- What the kernel reckons: pairs of primes below 1999. -/
namespace Go.Proofs.YtjminjliomffaaaDoor
namespace Num
set_option maxRecDepth 1000000
theorem pairs0 : ((sp.drop 0).take 5).all (fun q => pairsL q sp) = true := by decide +kernel
theorem pairs1 : ((sp.drop 5).take 1).all (fun q => pairsL q sp) = true := by decide +kernel
theorem pairs2 : ((sp.drop 6).take 2).all (fun q => pairsL q sp) = true := by decide +kernel
theorem pairs3 : ((sp.drop 8).take 1).all (fun q => pairsL q sp) = true := by decide +kernel
theorem pairs4 : ((sp.drop 9).take 2).all (fun q => pairsL q sp) = true := by decide +kernel
theorem pairs5 : ((sp.drop 11).take 2).all (fun q => pairsL q sp) = true := by decide +kernel
theorem pairs6 : ((sp.drop 13).take 3).all (fun q => pairsL q sp) = true := by decide +kernel
theorem pairs7 : ((sp.drop 16).take 2).all (fun q => pairsL q sp) = true := by decide +kernel
theorem pairs8 : ((sp.drop 18).take 3).all (fun q => pairsL q sp) = true := by decide +kernel
theorem pairs9 : ((sp.drop 21).take 3).all (fun q => pairsL q sp) = true := by decide +kernel
end Num
end Go.Proofs.YtjminjliomffaaaDoor

/- What the kernel reckons: pairs of primes below 1999. -/
namespace Go.Proofs.YtjminjliomffaaaDoor
namespace Num
set_option maxRecDepth 1000000
theorem pairs10 : ((sp.drop 24).take 6).all (fun q => pairsL q sp) = true := by decide +kernel
theorem pairs11 : ((sp.drop 30).take 8).all (fun q => pairsL q sp) = true := by decide +kernel
theorem pairs12 : ((sp.drop 38).take 10).all (fun q => pairsL q sp) = true := by decide +kernel
theorem pairs13 : ((sp.drop 48).take 19).all (fun q => pairsL q sp) = true := by decide +kernel
theorem pairs14 : ((sp.drop 67).take 31).all (fun q => pairsL q sp) = true := by decide +kernel
theorem pairs15 : ((sp.drop 98).take 56).all (fun q => pairsL q sp) = true := by decide +kernel
theorem pairs16 : ((sp.drop 154).take 67).all (fun q => pairsL q sp) = true := by decide +kernel
theorem pairs17 : ((sp.drop 221).take 62).all (fun q => pairsL q sp) = true := by decide +kernel
theorem pairs18 : ((sp.drop 283).take 8).all (fun q => pairsL q sp) = true := by decide +kernel
end Num
end Go.Proofs.YtjminjliomffaaaDoor

/- What the kernel reckons: primes from 1999 to 65535. -/
namespace Go.Proofs.YtjminjliomffaaaDoor
namespace Num
set_option maxRecDepth 1000000
theorem big0 : allB 301 (fun i => bigB (i + 1999)) = true := by decide +kernel
theorem big1 : allB 400 (fun i => bigB (i + 2300)) = true := by decide +kernel
theorem big2 : allB 600 (fun i => bigB (i + 2700)) = true := by decide +kernel
theorem big3 : allB 900 (fun i => bigB (i + 3300)) = true := by decide +kernel
end Num
end Go.Proofs.YtjminjliomffaaaDoor
